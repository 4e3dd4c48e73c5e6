/- How data that came in are read as plain Lean values, kind by kind: numbers, truths, texts, rows. -/
import Derived.ChangeArms
import Derived.Test.YtcmjdkfndlejcaaWWords
namespace Go.Proofs.YtcmjdkfndlejcaaW.Opens
open Go Go.RowKit Go.Proofs.YtcmjdkfndlejcaaW.PrintWords
set_option linter.unusedVariables false
variable {H : Type} {enc : TypeId × Value → H} {P : Program} {w : World} {t e : TypeId} {n : Nat}

/-- What is read at type t, with so much fuel, is a value of the kind d, and good. -/
def OpensN {α : Type} (enc : TypeId × Value → H) (P : Program) (w : World) (n : Nat) (d : Kd α) (t : TypeId) (G : α → Prop) : Prop :=
  ∀ cs x, DataW.trod enc P w 0 (fun _ => true) true n t cs = some x → ∃ y, d.K w y cs ∧ G y

theorem opens_mono {α : Type} {d : Kd α} {G G' : α → Prop} (h : OpensN enc P w n d t G) (hG : ∀ y, G y → G' y) : OpensN enc P w n d t G' := fun cs x hx => by
  obtain ⟨y, a, b⟩ := h cs x hx
  exact ⟨y, a, hG y b⟩

theorem opens_int {k : IntKind} (ht : P.underlying t = some (.int k)) : OpensN enc P w n (Kd.int k) t (fun y => (Lit.int k y).wf = true) := by
  intro cs x h
  cases n with
  | zero => simp [DataW.trod] at h
  | succ m =>
    unfold DataW.trod at h
    rw [ht] at h
    split at h <;> simp_all
    exact ⟨_, rfl, h.1.2⟩
theorem opens_bool (ht : P.underlying t = some .bool) : OpensN enc P w n Kd.bool t (fun _ => True) := by
  intro cs x h
  cases n with
  | zero => simp [DataW.trod] at h
  | succ m =>
    unfold DataW.trod at h
    rw [ht] at h
    split at h <;> simp_all
    rename_i b
    cases b
    · exact .inl rfl
    · exact .inr rfl
theorem opens_string (ht : P.underlying t = some .string) : OpensN enc P w n Kd.string t (fun y => y.size ≤ maxLen) := by
  intro cs x h
  cases n with
  | zero => simp [DataW.trod] at h
  | succ m =>
    unfold DataW.trod at h
    rw [ht] at h
    split at h <;> simp_all
    exact ⟨_, rfl, h.1⟩

theorem choose_list {α : Type} (Q : Nat → α → Prop) : ∀ n, (∀ i, i < n → ∃ y, Q i y) → ∃ ys : List α, ys.length = n ∧ ∀ i y, ys[i]? = some y → Q i y
  | 0, _ => ⟨[], rfl, fun i y h => by simp at h⟩
  | n + 1, h => by
    obtain ⟨ys, hl, hq⟩ := choose_list Q n (fun i hi => h i (by omega))
    obtain ⟨y, hy⟩ := h n (by omega)
    refine ⟨ys ++ [y], by rw [List.length_append, hl]; rfl, fun i z hz => ?_⟩
    by_cases hi : i < n
    · rw [List.getElem?_append_left (by omega)] at hz
      exact hq i z hz
    · rw [List.getElem?_append_right (by omega), hl] at hz
      have hin : i = n := by
        apply Decidable.byContradiction
        intro h2
        rw [List.getElem?_eq_none (by simp; omega)] at hz
        cases hz
      subst hin
      rw [Nat.sub_self] at hz
      injection hz with hz
      exact hz ▸ hy

theorem cells_read {base : Nat} {a : Addr} : ∀ {n : Nat} {cs : List Value}, w.cells? base a n = some cs → cs.length = n ∧ ∀ i u, cs[i]? = some u → w.cell? (a.add i) = some u := by
  intro n cs h
  unfold World.cells? at h
  split at h
  · have hl := mapM_some_length h
    rw [List.length_range] at hl
    refine ⟨hl, fun i u hu => ?_⟩
    have hi : i < n := by have := (List.getElem?_eq_some_iff.1 hu).1; omega
    have := mapM_some_get h i i (by rw [List.getElem?_range hi])
    rw [hu] at this
    exact this
  · cases h

theorem opens_slice {α : Type} {d : Kd α} {G : α → Prop} (ht : P.underlying t = some (.slice e)) (hc : P.cellsOf e = d.sz) (hd : OpensN enc P w n d e G) :
    OpensN enc P w (n + 1) (Kd.slice e d) t (fun ys => ys.length ≤ maxLen ∧ ∀ y ∈ ys, G y) := by
  intro cs x h
  rcases DataW.trod_slice ht h with ⟨rfl, _⟩ | ⟨a, len, cap, elems, rest, m, hm, rfl, rfl, hb, hl, hmax, hlen, hel, hsp, hns⟩
  · refine ⟨[], ⟨none, 0, rfl, Nat.le_refl _, ⟨rfl, by simp, fun h => by simp at h⟩⟩, by simp, fun y hy => by cases hy⟩
  obtain rfl : m = n := by omega
  have each : ∀ i, i < len → ∃ y, (∃ c, c.length = d.sz ∧ d.K w y c ∧ ∀ j u, c[j]? = some u → w.cell? (a.add (i * d.sz + j)) = some u) ∧ G y := by
    intro i hi
    have h1 := hel i hi
    have h2 : elems[i]? = some elems[i] := List.getElem?_eq_getElem (by omega)
    rw [h2, Option.bind_eq_some_iff] at h1
    obtain ⟨c, hcells, htr⟩ := h1
    obtain ⟨hcl, hcc⟩ := cells_read hcells
    obtain ⟨y, hy, hG⟩ := hd c _ htr
    refine ⟨y, ⟨c, by rw [hcl, hc], hy, fun j u hu => ?_⟩, hG⟩
    have := hcc j u hu
    rw [hc] at this
    rw [add_add] at this
    exact this
  obtain ⟨ys, hyl, hys⟩ := choose_list _ len each
  refine ⟨ys, ⟨some a, cap, by rw [hyl], by omega, ⟨hyl ▸ rfl, by unfold maxLen at hmax; omega, fun _ => ⟨a, rfl, fun j p hp => (hys j p hp).1⟩⟩⟩, by omega, fun y hy => ?_⟩
  obtain ⟨j, hj, rfl⟩ := List.getElem_of_mem hy
  exact (hys j _ (List.getElem?_eq_getElem hj)).2
theorem opens_slice_lt {α : Type} {d : Kd α} {G : α → Prop} (ht : P.underlying t = some (.slice e)) (hc : P.cellsOf e = d.sz) (hd : ∀ m, m < n → OpensN enc P w m d e G) :
    OpensN enc P w n (Kd.slice e d) t (fun ys => ys.length ≤ maxLen ∧ ∀ y ∈ ys, G y) := by
  cases n with
  | zero => intro cs x h; simp [DataW.trod] at h
  | succ m => exact opens_slice ht hc (hd m (by omega))
end Go.Proofs.YtcmjdkfndlejcaaW.Opens
