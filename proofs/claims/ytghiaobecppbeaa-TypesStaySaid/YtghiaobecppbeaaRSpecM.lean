/- Names, rising, each once: two ways to come to them. -/
import Derived.Test.YtghiaobecppbeaaRSpecN
open Go Go.Rx
namespace Go.RxTree
set_option linter.unusedVariables false
set_option linter.unusedSimpArgs false
abbrev Tx := List UInt8
theorem bl_eq : ∀ (x y : Tx), Op.bytesLess x y = decide (x < y)
  | [], [] => by simp [Op.bytesLess]
  | _ :: _, [] => by simp [Op.bytesLess]
  | [], _ :: _ => by simp [Op.bytesLess]
  | a :: x, b :: y => by
    rw [Op.bytesLess, bl_eq x y]
    simp only [List.cons_lt_cons_iff]
    by_cases h1 : a < b <;> by_cases h2 : a = b <;> by_cases h3 : x < y <;> simp [h1, h2, h3]
theorem tx_nil_lt {x : Tx} (h : x ≠ []) : ([] : Tx) < x := by
  cases x with
  | nil => exact absurd rfl h
  | cons a r => exact List.nil_lt_cons a r
theorem tx_tri (a b : Tx) : a < b ∨ a = b ∨ b < a := by
  rcases Std.lt_trichotomy a b with h | h | h
  · exact .inl h
  · exact .inr (.inl h)
  · exact .inr (.inr h)
theorem tx_trans {a b c : Tx} (h : a < b) (k : b < c) : a < c := Std.lt_trans h k
theorem tx_irr {a : Tx} (h : a < a) : False := Std.lt_irrefl h
theorem tx_le {a b : Tx} (h : a ≤ b) : a < b ∨ a = b := by
  rcases tx_tri a b with h1 | h1 | h1
  · exact .inl h1
  · exact .inr h1
  · exact absurd h1 (Std.not_lt.2 h)
theorem up_le {d : Array Tx} (hs : ∀ i j, i < j → j < d.size → d[i]! ≤ d[j]!) : ∀ m, m ≤ d.size →
    (Go.Lib.compactUpTo d m).Pairwise (· < ·) ∧ (∀ x, x ∈ Go.Lib.compactUpTo d m ↔ ∃ j, j < m ∧ d[j]! = x) := by
  intro m
  induction m with
  | zero => intro _; exact ⟨.nil, fun x => ⟨fun h => (by cases h), fun ⟨j, h, _⟩ => absurd h (by omega)⟩⟩
  | succ m ih =>
    intro hm
    obtain ⟨h1, h2⟩ := ih (by omega)
    rw [Go.Lib.compactUpTo_succ]
    by_cases hk : Go.Lib.keeps d m = true
    · rw [if_pos hk]
      refine ⟨List.pairwise_append.2 ⟨h1, List.pairwise_singleton _ _, fun a ha b hb => ?_⟩, fun x => ?_⟩
      · simp only [List.mem_singleton] at hb
        subst hb
        obtain ⟨j, hj, rfl⟩ := (h2 a).1 ha
        have hne : m = 0 ∨ d[m]! ≠ d[m - 1]! := by simpa [Go.Lib.keeps] using hk
        have hne : d[m]! ≠ d[m - 1]! := by rcases hne with h | h; · omega
                                           · exact h
        have hl : d[m - 1]! < d[m]! := by
          rcases tx_le (hs (m - 1) m (by omega) (by omega)) with h | h
          · exact h
          · exact absurd h.symm hne
        by_cases e : j = m - 1
        · rw [e]; exact hl
        · rcases tx_le (hs j (m - 1) (by omega) (by omega)) with h | h
          · exact tx_trans h hl
          · rw [h]; exact hl
      · simp only [List.mem_append, List.mem_singleton, h2]
        constructor
        · rintro (⟨j, hj, rfl⟩ | rfl)
          · exact ⟨j, by omega, rfl⟩
          · exact ⟨m, by omega, rfl⟩
        · rintro ⟨j, hj, rfl⟩
          by_cases e : j = m
          · right; rw [e]
          · left; exact ⟨j, by omega, rfl⟩
    · rw [if_neg hk, List.append_nil]
      refine ⟨h1, fun x => ?_⟩
      have hk : ¬(m = 0 ∨ d[m]! ≠ d[m - 1]!) := by simpa [Go.Lib.keeps] using hk
      have hm0 : m ≠ 0 := fun e => hk (.inl e)
      have he : d[m]! = d[m - 1]! := Decidable.byContradiction fun e => hk (.inr e)
      rw [h2]
      constructor
      · rintro ⟨j, hj, rfl⟩; exact ⟨j, by omega, rfl⟩
      · rintro ⟨j, hj, rfl⟩
        by_cases e : j = m
        · subst e; exact ⟨j - 1, by omega, he.symm⟩
        · exact ⟨j, by omega, rfl⟩
theorem sorted_perm (l : List Tx) : (sorted l).Perm l := List.mergeSort_perm _ _
theorem sorted_le (l : List Tx) : (sorted l).Pairwise (· ≤ ·) := by
  have := List.pairwise_mergeSort (le := fun (x y : Tx) => decide (x ≤ y)) (fun a b c h1 h2 => by
    simp only [decide_eq_true_eq] at *; exact Std.le_trans h1 h2) (fun a b => by
    simp only [Bool.or_eq_true, decide_eq_true_eq]; exact Std.le_total) l
  exact this.imp (by simp)
/-- The names, rising, each once. -/
def uniq (l : List Tx) : List Tx := Go.Lib.compact (sorted l)
theorem uniq_ok (l : List Tx) : (uniq l).Pairwise (· < ·) ∧ ∀ x, x ∈ uniq l ↔ x ∈ l := by
  have h := sorted_le l
  have hp := sorted_perm l
  unfold uniq
  generalize sorted l = z at h hp
  have hu := up_le (d := z.toArray) (fun i j hij hj => by
    have hj' : j < z.length := by simpa using hj
    have := List.pairwise_iff_getElem.1 h i j (by omega) hj' hij
    simpa [show i < z.length by omega, hj'] using this) z.length (by simp)
  refine ⟨hu.1, fun x => ?_⟩
  rw [← hp.mem_iff]
  refine (hu.2 x).trans ⟨fun ⟨j, hj, e⟩ => ?_, fun hx => ?_⟩
  · have e : z[j] = x := by simpa [hj] using e
    rw [← e]; exact List.getElem_mem _
  · obtain ⟨j, hj, e⟩ := List.getElem_of_mem hx
    exact ⟨j, hj, by simpa [hj] using e⟩
theorem uniq_len (l : List Tx) : (uniq l).length ≤ l.length := by
  have := compact_short (sorted l)
  rwa [(sorted_perm l).length_eq] at this
/-- The least of those beyond one. -/
def minS (last : Tx) (best x : Tx) : Tx := if last < x ∧ (best = [] ∨ x < best) then x else best
def minF (last : Tx) (best : Tx) : List Tx → Tx
  | [] => best
  | x :: r => minF last (minS last best x) r
theorem minF_ok (last : Tx) : ∀ (l : List Tx) (best : Tx), (best = [] ∨ last < best) →
    (minF last best l = [] ∨ last < minF last best l) ∧ (minF last best l = best ∨ minF last best l ∈ l) ∧
    (∀ x ∈ l, last < x → minF last best l ≠ [] ∧ ¬ x < minF last best l) ∧ (best ≠ [] → minF last best l ≠ [] ∧ ¬ best < minF last best l)
  | [], best, h => ⟨h, .inl rfl, fun x hx => (by cases hx), fun hb => ⟨hb, tx_irr⟩⟩
  | y :: r, best, h => by
    have hs : minS last best y = [] ∨ last < minS last best y := by
      unfold minS; split
      · rename_i hh; exact .inr hh.1
      · exact h
    obtain ⟨a1, a2, a3, a4⟩ := minF_ok last r (minS last best y) hs
    rw [show minF last best (y :: r) = minF last (minS last best y) r from rfl]
    generalize hm : minF last (minS last best y) r = m at *
    have key : last < y → m ≠ [] ∧ ¬ y < m := fun hy => by
      have hy0 : y ≠ [] := fun e => by subst e; exact absurd hy (by simp)
      by_cases hc : best = [] ∨ y < best
      · have e : minS last best y = y := by unfold minS; rw [if_pos ⟨hy, hc⟩]
        rw [e] at a4
        exact a4 hy0
      · have e : minS last best y = best := by unfold minS; rw [if_neg (fun q => hc q.2)]
        rw [e] at a4
        have hb : best ≠ [] := fun e => hc (.inl e)
        obtain ⟨b1, b2⟩ := a4 hb
        refine ⟨b1, fun q => ?_⟩
        rcases tx_tri y best with t | t | t
        · exact hc (.inr t)
        · exact b2 (t ▸ q)
        · exact b2 (tx_trans t q)
    refine ⟨a1, ?_, fun x hx hl => ?_, fun hb => ?_⟩
    · rcases a2 with e | e
      · unfold minS at e
        split at e
        · exact .inr (by rw [show m = y from e]; simp)
        · exact .inl e
      · exact .inr (List.mem_cons_of_mem _ e)
    · rcases List.mem_cons.1 hx with rfl | hx
      · exact key hl
      · exact a3 x hx hl
    · by_cases hc : last < y ∧ (best = [] ∨ y < best)
      · obtain ⟨k1, k2⟩ := key hc.1
        refine ⟨k1, fun q => ?_⟩
        rcases hc.2 with e | e
        · exact hb e
        · exact k2 (tx_trans e q)
      · have e : minS last best y = best := by unfold minS; rw [if_neg hc]
        rw [e] at a4
        exact a4 hb
/-- What is left behind the last one: its first is the least of those beyond. -/
structure Left (l : List Tx) (last : Tx) (q : List Tx) : Prop where
  up : q.Pairwise (· < ·)
  mem : ∀ x, x ∈ q ↔ x ∈ l ∧ last < x
theorem left_nil {l : List Tx} {last : Tx} (h : Left l last []) : minF last [] l = [] := by
  obtain ⟨a1, a2, _, _⟩ := minF_ok last l [] (.inl rfl)
  rcases a2 with e | e
  · exact e
  · rcases a1 with e1 | e1
    · exact e1
    · have := (h.mem _).2 ⟨e, e1⟩; cases this
theorem left_cons {l : List Tx} {last x : Tx} {q : List Tx} (h : Left l last (x :: q)) : minF last [] l = x ∧ x ≠ [] ∧ Left l x q := by
  obtain ⟨a1, a2, a3, _⟩ := minF_ok last l [] (.inl rfl)
  obtain ⟨hx, hl⟩ := (h.mem x).1 (by simp)
  obtain ⟨b1, b2⟩ := a3 x hx hl
  have hx0 : x ≠ [] := fun e => by subst e; exact absurd hl (by simp)
  have hm : minF last [] l ∈ x :: q := (h.mem _).2 ⟨a2.resolve_left b1, a1.resolve_left b1⟩
  have hp := List.pairwise_cons.1 h.up
  refine ⟨?_, hx0, hp.2, fun y => ⟨fun hy => ?_, fun ⟨hy, hxy⟩ => ?_⟩⟩
  · rcases List.mem_cons.1 hm with e | e
    · exact e
    · exact absurd (hp.1 _ e) b2
  · exact ⟨((h.mem y).1 (by simp [hy])).1, hp.1 y hy⟩
  · rcases List.mem_cons.1 ((h.mem y).2 ⟨hy, tx_trans hl hxy⟩) with e | e
    · subst e; exact (tx_irr hxy).elim
    · exact e
theorem left_all {l : List Tx} (h : ∀ x ∈ l, x ≠ []) : Left l [] (uniq l) :=
  ⟨(uniq_ok l).1, fun x => ⟨fun hx => ⟨((uniq_ok l).2 x).1 hx, tx_nil_lt (h x (((uniq_ok l).2 x).1 hx))⟩, fun hx => ((uniq_ok l).2 x).2 hx.1⟩⟩
end Go.RxTree
namespace Go.RxTree
mutual
theorem names_text : ∀ (t : T) (d : Int), checkT t d = 0 → ∀ x ∈ namesT t, x ≠ []
  | .mk k n s l, d, h, x, hx => by
    obtain ⟨h1, h2, h3, h4⟩ := checkT_inv h
    rw [namesT, List.mem_append] at hx
    rcases hx with hx | hx
    · by_cases hk : k = 2
      · rw [if_pos hk, List.mem_singleton] at hx
        subst hx hk
        intro e
        subst e
        rw [textOk_v] at h3
        revert h3; decide
      · rw [if_neg hk] at hx; cases hx
    · exact namesL_text l (d + 1) h4 x hx
theorem namesL_text : ∀ (l : List T) (d : Int), checkL l d = 0 → ∀ x ∈ namesL l, x ≠ []
  | [], d, h, x, hx => by cases hx
  | t :: r, d, h, x, hx => by
    rw [checkL] at h
    by_cases h1 : checkT t d = 0
    · rw [if_pos h1] at h
      rcases List.mem_append.1 hx with hx | hx
      · exact names_text t d h1 x hx
      · exact namesL_text r d h x hx
    · rw [if_neg h1] at h; exact absurd h h1
end
end Go.RxTree
