/- Names, rising, each once: two ways to come to them. -/
import Derived.Test.YtaghcidejnhahaaRxJc
import Derived.Test.YtaghcidejnhahaaRSpecF
open Go Go.Rx
namespace Go.RxTree
set_option linter.unusedVariables false
set_option linter.unusedSimpArgs false
abbrev Tx := List UInt8
theorem bl_eq : ∀ (x y : Tx), Op.bytesLess x y = decide (x < y)
  | [], [] => by simp [Op.bytesLess]
  | _ :: _, [] => by simp [Op.bytesLess]
  | [], _ :: _ => by simp [Op.bytesLess]
  | a :: x, b :: y => by
    rw [Op.bytesLess, bl_eq x y]
    simp only [List.cons_lt_cons_iff]
    by_cases h1 : a < b <;> by_cases h2 : a = b <;> by_cases h3 : x < y <;> simp [h1, h2, h3]
theorem tx_nil_lt {x : Tx} (h : x ≠ []) : ([] : Tx) < x := by
  cases x with
  | nil => exact absurd rfl h
  | cons a r => exact List.nil_lt_cons a r
theorem tx_tri (a b : Tx) : a < b ∨ a = b ∨ b < a := by
  rcases Std.lt_trichotomy a b with h | h | h
  · exact .inl h
  · exact .inr (.inl h)
  · exact .inr (.inr h)
theorem tx_trans {a b c : Tx} (h : a < b) (k : b < c) : a < c := Std.lt_trans h k
theorem tx_irr {a : Tx} (h : a < a) : False := Std.lt_irrefl h
theorem tx_le {a b : Tx} (h : a ≤ b) : a < b ∨ a = b := by
  rcases tx_tri a b with h1 | h1 | h1
  · exact .inl h1
  · exact .inr h1
  · exact absurd h1 (Std.not_lt.2 h)
theorem up_le {d : Array Tx} (hs : ∀ i j, i < j → j < d.size → d[i]! ≤ d[j]!) : ∀ m, m ≤ d.size →
    (Go.Lib.compactUpTo d m).Pairwise (· < ·) ∧ (∀ x, x ∈ Go.Lib.compactUpTo d m ↔ ∃ j, j < m ∧ d[j]! = x) := by
  intro m
  induction m with
  | zero => intro _; exact ⟨.nil, fun x => ⟨fun h => (by cases h), fun ⟨j, h, _⟩ => absurd h (by omega)⟩⟩
  | succ m ih =>
    intro hm
    obtain ⟨h1, h2⟩ := ih (by omega)
    rw [Go.Lib.compactUpTo_succ]
    by_cases hk : Go.Lib.keeps d m = true
    · rw [if_pos hk]
      refine ⟨List.pairwise_append.2 ⟨h1, List.pairwise_singleton _ _, fun a ha b hb => ?_⟩, fun x => ?_⟩
      · simp only [List.mem_singleton] at hb
        subst hb
        obtain ⟨j, hj, rfl⟩ := (h2 a).1 ha
        have hne : m = 0 ∨ d[m]! ≠ d[m - 1]! := by simpa [Go.Lib.keeps] using hk
        have hne : d[m]! ≠ d[m - 1]! := by rcases hne with h | h; · omega
                                           · exact h
        have hl : d[m - 1]! < d[m]! := by
          rcases tx_le (hs (m - 1) m (by omega) (by omega)) with h | h
          · exact h
          · exact absurd h.symm hne
        by_cases e : j = m - 1
        · rw [e]; exact hl
        · rcases tx_le (hs j (m - 1) (by omega) (by omega)) with h | h
          · exact tx_trans h hl
          · rw [h]; exact hl
      · simp only [List.mem_append, List.mem_singleton, h2]
        constructor
        · rintro (⟨j, hj, rfl⟩ | rfl)
          · exact ⟨j, by omega, rfl⟩
          · exact ⟨m, by omega, rfl⟩
        · rintro ⟨j, hj, rfl⟩
          by_cases e : j = m
          · right; rw [e]
          · left; exact ⟨j, by omega, rfl⟩
    · rw [if_neg hk, List.append_nil]
      refine ⟨h1, fun x => ?_⟩
      have hk : ¬(m = 0 ∨ d[m]! ≠ d[m - 1]!) := by simpa [Go.Lib.keeps] using hk
      have hm0 : m ≠ 0 := fun e => hk (.inl e)
      have he : d[m]! = d[m - 1]! := Decidable.byContradiction fun e => hk (.inr e)
      rw [h2]
      constructor
      · rintro ⟨j, hj, rfl⟩; exact ⟨j, by omega, rfl⟩
      · rintro ⟨j, hj, rfl⟩
        by_cases e : j = m
        · subst e; exact ⟨j - 1, by omega, he.symm⟩
        · exact ⟨j, by omega, rfl⟩
theorem sorted_perm (l : List Tx) : (sorted l).Perm l := List.mergeSort_perm _ _
theorem sorted_le (l : List Tx) : (sorted l).Pairwise (· ≤ ·) := by
  have := List.pairwise_mergeSort (le := fun (x y : Tx) => decide (x ≤ y)) (fun a b c h1 h2 => by
    simp only [decide_eq_true_eq] at *; exact Std.le_trans h1 h2) (fun a b => by
    simp only [Bool.or_eq_true, decide_eq_true_eq]; exact Std.le_total) l
  exact this.imp (by simp)
/-- The names, rising, each once. -/
def uniq (l : List Tx) : List Tx := Go.Lib.compact (sorted l)
theorem uniq_ok (l : List Tx) : (uniq l).Pairwise (· < ·) ∧ ∀ x, x ∈ uniq l ↔ x ∈ l := by
  have h := sorted_le l
  have hp := sorted_perm l
  unfold uniq
  generalize sorted l = z at h hp
  have hu := up_le (d := z.toArray) (fun i j hij hj => by
    have hj' : j < z.length := by simpa using hj
    have := List.pairwise_iff_getElem.1 h i j (by omega) hj' hij
    simpa [show i < z.length by omega, hj'] using this) z.length (by simp)
  refine ⟨hu.1, fun x => ?_⟩
  rw [← hp.mem_iff]
  refine (hu.2 x).trans ⟨fun ⟨j, hj, e⟩ => ?_, fun hx => ?_⟩
  · have e : z[j] = x := by simpa [hj] using e
    rw [← e]; exact List.getElem_mem _
  · obtain ⟨j, hj, e⟩ := List.getElem_of_mem hx
    exact ⟨j, hj, by simpa [hj] using e⟩
theorem uniq_len (l : List Tx) : (uniq l).length ≤ l.length := by
  have := compact_short (sorted l)
  rwa [(sorted_perm l).length_eq] at this
theorem sL_len (l : List (List UInt8)) : (sL l).length = l.length := by simp [sL]
theorem sL_get {l : List Tx} {i : Nat} {x : Tx} (h : l[i]? = some x) : (sL l)[i]? = some [.str x] := by rw [sL, List.getElem?_map, h]; rfl
theorem sL_full (l : List Tx) : (sL l).take l.length = sL l := List.take_of_length_le (by rw [sL_len]; exact Nat.le_refl _)
theorem sL_app1 (l : List Tx) (x : Tx) : (sL l).take l.length ++ [[.str x]] = sL (l ++ [x]) := by rw [sL_full, sL, sL, List.map_append]; rfl
/-- The names of places of a kind. -/
def namesOf (kind : Int) (ps : List PlaceT) : List Tx := (ps.filter fun p => decide (p.kind = kind)).map PlaceT.name
theorem namesOf_mem {kind : Int} {ps : List PlaceT} {x : Tx} : x ∈ namesOf kind ps ↔ ∃ p ∈ ps, p.kind = kind ∧ p.name = x := by
  simp only [namesOf, List.mem_map, List.mem_filter, decide_eq_true_eq]
  exact ⟨fun ⟨p, ⟨h1, h2⟩, h3⟩ => ⟨p, h1, h2, h3⟩, fun ⟨p, h1, h2, h3⟩ => ⟨p, ⟨h1, h2⟩, h3⟩⟩
theorem namesOf_len (kind : Int) (ps : List PlaceT) : (namesOf kind ps).length ≤ ps.length := by
  rw [namesOf, List.length_map]; exact List.length_filter_le _ _
/-- Is a place passed by? -/
def skipB (kind : Int) (o : Bool) (last : Tx) (p : PlaceT) : Bool := !decide (p.kind = kind) || (o && !decide (last < p.name))
theorem skip_no {kind : Int} {o : Bool} {last : Tx} {p : PlaceT} : skipB kind o last p = false ↔ p.kind = kind ∧ (o = true → last < p.name) := by
  cases o <;> simp [skipB]
/-- The least name, and where it stands. -/
def bestF (kind : Int) (o : Bool) (last : Tx) : List PlaceT → Nat → Option (Nat × Tx) → Option (Nat × Tx)
  | [], i, b => b
  | p :: r, i, b => if skipB kind o last p = true then bestF kind o last r (i + 1) b
      else match b with
        | none => bestF kind o last r (i + 1) (some (i, p.name))
        | some (j, x) => if p.name < x then bestF kind o last r (i + 1) (some (i, p.name)) else bestF kind o last r (i + 1) (some (j, x))
theorem bestF_cons (kind : Int) (o : Bool) (last : Tx) (p : PlaceT) (r : List PlaceT) (i : Nat) (b : Option (Nat × Tx)) : bestF kind o last (p :: r) i b = if skipB kind o last p = true then bestF kind o last r (i + 1) b
      else match b with
        | none => bestF kind o last r (i + 1) (some (i, p.name))
        | some (j, x) => if p.name < x then bestF kind o last r (i + 1) (some (i, p.name)) else bestF kind o last r (i + 1) (some (j, x)) := rfl
theorem tx_nle {a b : Tx} (h : ¬ a < b) : b ≤ a := Std.not_lt.1 h
theorem tx_lle {a b : Tx} (h : a < b) : a ≤ b := Std.le_of_lt h
theorem bestF_ok (kind : Int) (o : Bool) (last : Tx) : ∀ (l : List PlaceT) (i : Nat) (b : Option (Nat × Tx)),
    (∀ j x, bestF kind o last l i b = some (j, x) → (b = some (j, x) ∨ ∃ k p, l[k]? = some p ∧ j = i + k ∧ p.name = x ∧ skipB kind o last p = false) ∧ (∀ p ∈ l, skipB kind o last p = false → x ≤ p.name) ∧ (∀ j' z, b = some (j', z) → x ≤ z)) ∧
    (bestF kind o last l i b = none → b = none ∧ ∀ p ∈ l, skipB kind o last p = true)
  | [], i, b => by
    refine ⟨fun j x h => ⟨.inl h, fun p hp => absurd hp List.not_mem_nil, fun j' z hz => ?_⟩, fun h => ⟨h, fun p hp => absurd hp List.not_mem_nil⟩⟩
    change b = some (j, x) at h
    rw [h] at hz
    injection hz with hz
    injection hz with h1 h2
    rw [h2]; exact Std.le_refl _
  | p :: r, i, b => by
    rw [bestF_cons]
    by_cases hs : skipB kind o last p = true
    · rw [if_pos hs]
      obtain ⟨h1, h2⟩ := bestF_ok kind o last r (i + 1) b
      refine ⟨fun j x h => ?_, fun h => ?_⟩
      · obtain ⟨a1, a2, a3⟩ := h1 j x h
        refine ⟨?_, fun q hq hqs => ?_, a3⟩
        · rcases a1 with a1 | ⟨k, q, e1, e2, e3, e4⟩
          · exact .inl a1
          · exact .inr ⟨k + 1, q, by simpa using e1, by omega, e3, e4⟩
        · rcases List.mem_cons.1 hq with e | e
          · rw [e, hs] at hqs; cases hqs
          · exact a2 q e hqs
      · obtain ⟨a1, a2⟩ := h2 h
        refine ⟨a1, fun q hq => ?_⟩
        rcases List.mem_cons.1 hq with e | e
        · rw [e]; exact hs
        · exact a2 q e
    · rw [if_neg hs]
      have hs' : skipB kind o last p = false := by simpa using hs
      have key : ∀ b', ((b' = some (i, p.name) ∧ ∀ j z, b = some (j, z) → p.name < z) ∨ (b' = b ∧ ∃ j x, b = some (j, x) ∧ ¬ p.name < x)) →
          (∀ j x, bestF kind o last r (i + 1) b' = some (j, x) → (b = some (j, x) ∨ ∃ k q, (p :: r)[k]? = some q ∧ j = i + k ∧ q.name = x ∧ skipB kind o last q = false) ∧ (∀ q ∈ p :: r, skipB kind o last q = false → x ≤ q.name) ∧ (∀ j' z, b = some (j', z) → x ≤ z)) ∧
          (bestF kind o last r (i + 1) b' = none → b = none ∧ ∀ q ∈ p :: r, skipB kind o last q = true) := fun b' hb' => by
        obtain ⟨h1, h2⟩ := bestF_ok kind o last r (i + 1) b'
        refine ⟨fun j x h => ?_, fun h => ?_⟩
        · obtain ⟨a1, a2, a3⟩ := h1 j x h
          have hxp : x ≤ p.name := by
            rcases hb' with ⟨e, _⟩ | ⟨e, j0, x0, e0, e1⟩
            · exact a3 _ _ e
            · exact Std.le_trans (a3 _ _ (e.trans e0)) (tx_nle e1)
          refine ⟨?_, fun q hq hqs => ?_, fun j' z hz => ?_⟩
          · rcases a1 with a1 | ⟨k, q, e1, e2, e3, e4⟩
            · rcases hb' with ⟨e, _⟩ | ⟨e, _⟩
              · rw [e] at a1
                injection a1 with a1
                injection a1 with a3 a4
                exact .inr ⟨0, p, rfl, by omega, a4, hs'⟩
              · exact .inl (by rw [← e]; exact a1)
            · exact .inr ⟨k + 1, q, by simpa using e1, by omega, e3, e4⟩
          · rcases List.mem_cons.1 hq with e | e
            · rw [e]; exact hxp
            · exact a2 q e hqs
          · rcases hb' with ⟨e, hlt⟩ | ⟨e, _⟩
            · exact Std.le_trans hxp (tx_lle (hlt j' z hz))
            · exact a3 j' z (e.trans hz)
        · obtain ⟨a1, a2⟩ := h2 h
          rcases hb' with ⟨e, _⟩ | ⟨e, j0, x0, e0, e1⟩
          · rw [e] at a1; cases a1
          · rw [e, e0] at a1; cases a1
      cases b with
      | none => exact key _ (.inl ⟨rfl, fun j z h => by cases h⟩)
      | some jx =>
        obtain ⟨j, x⟩ := jx
        dsimp only
        by_cases hx : p.name < x
        · rw [if_pos hx]
          exact key _ (.inl ⟨rfl, fun j' z h => by
            injection h with h
            injection h with h1 h2
            rw [← h2]; exact hx⟩)
        · rw [if_neg hx]
          exact key _ (.inr ⟨rfl, j, x, rfl, hx⟩)
def lastT (l : List Tx) : Tx := l.getLast?.getD []
theorem lastT_app (l : List Tx) (x : Tx) : lastT (l ++ [x]) = x := by rw [lastT, List.getLast?_concat]; rfl
/-- What the least name is, of those that are left. -/
theorem best_step {kind : Int} {ps : List PlaceT} {out q : List Tx} (h : uniq (namesOf kind ps) = out ++ q) :
    (q = [] → bestF kind (decide (0 < out.length)) (lastT out) ps 0 none = none) ∧
    (∀ x q', q = x :: q' → ∃ j p, bestF kind (decide (0 < out.length)) (lastT out) ps 0 none = some (j, x) ∧ ps[j]? = some p ∧ p.name = x) := by
  obtain ⟨hsrt, hmem⟩ := uniq_ok (namesOf kind ps)
  rw [h] at hsrt hmem
  obtain ⟨b1, b2⟩ := bestF_ok kind (decide (0 < out.length)) (lastT out) ps 0 none
  obtain ⟨s1, s2, s3⟩ := List.pairwise_append.1 hsrt
  -- those that are not passed by are those that are left
  have hcand : ∀ p ∈ ps, skipB kind (decide (0 < out.length)) (lastT out) p = false → p.name ∈ q := fun p hp hs => by
    obtain ⟨c1, c2⟩ := skip_no.1 hs
    have hx : p.name ∈ out ++ q := (hmem _).2 (namesOf_mem.2 ⟨p, hp, c1, rfl⟩)
    rcases List.mem_append.1 hx with h1 | h1
    · exfalso
      have h0 : 0 < out.length := List.length_pos_of_mem h1
      have hlt := c2 (decide_eq_true h0)
      obtain ⟨o', z, rfl⟩ : ∃ o' z, out = o' ++ [z] := ⟨out.dropLast, out.getLast (by intro e; rw [e] at h0; exact absurd h0 (Nat.lt_irrefl _)), (List.dropLast_concat_getLast _).symm⟩
      rw [lastT_app] at hlt
      rcases List.mem_append.1 h1 with h2 | h2
      · have := (List.pairwise_append.1 s1).2.2 _ h2 z (by simp)
        exact tx_irr (tx_trans hlt this)
      · rw [List.mem_singleton] at h2
        rw [h2] at hlt; exact tx_irr hlt
    · exact h1
  have hcand2 : ∀ x ∈ q, ∃ p ∈ ps, p.name = x ∧ skipB kind (decide (0 < out.length)) (lastT out) p = false := fun x hx => by
    obtain ⟨p, hp, c1, c2⟩ := namesOf_mem.1 ((hmem x).1 (List.mem_append_right _ hx))
    refine ⟨p, hp, c2, skip_no.2 ⟨c1, fun h0 => ?_⟩⟩
    have h0 := of_decide_eq_true h0
    obtain ⟨o', z, rfl⟩ : ∃ o' z, out = o' ++ [z] := ⟨out.dropLast, out.getLast (by intro e; rw [e] at h0; exact absurd h0 (Nat.lt_irrefl _)), (List.dropLast_concat_getLast _).symm⟩
    rw [lastT_app, c2]
    exact s3 z (by simp) x hx
  refine ⟨fun hq => ?_, fun x q' hq => ?_⟩
  · subst hq
    cases hb : bestF kind (decide (0 < out.length)) (lastT out) ps 0 none with
    | none => rfl
    | some jx =>
      obtain ⟨j, x⟩ := jx
      obtain ⟨a1, _, _⟩ := b1 j x hb
      rcases a1 with a1 | ⟨k, p, e1, e2, e3, e4⟩
      · cases a1
      · exact absurd (hcand p (List.mem_of_getElem? e1) e4) List.not_mem_nil
  · subst hq
    obtain ⟨p, hp, hpx, hps⟩ := hcand2 x (by simp)
    cases hb : bestF kind (decide (0 < out.length)) (lastT out) ps 0 none with
    | none =>
      have := (b2 hb).2 p hp
      rw [hps] at this; cases this
    | some jy =>
      obtain ⟨j, y⟩ := jy
      obtain ⟨a1, a2, _⟩ := b1 j y hb
      have hyx : y ≤ x := by rw [← hpx]; exact a2 p hp hps
      rcases a1 with a1 | ⟨k, p', e1, e2, e3, e4⟩
      · cases a1
      · have hyq : y ∈ x :: q' := by rw [← e3]; exact hcand p' (List.mem_of_getElem? e1) e4
        have hxy : y = x := by
          rcases List.mem_cons.1 hyq with e | e
          · exact e
          · have := (List.pairwise_cons.1 s2).1 y e
            rcases tx_le hyx with h1 | h1
            · exact absurd (tx_trans this h1) tx_irr
            · exact h1
        refine ⟨j, p', by rw [hxy], by rw [e2, Nat.zero_add]; exact e1, by rw [e3, hxy]⟩
end Go.RxTree
