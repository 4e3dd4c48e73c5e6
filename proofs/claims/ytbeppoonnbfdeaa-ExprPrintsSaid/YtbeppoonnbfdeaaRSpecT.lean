/- Where words that are a condition are cut. -/
import Derived.Test.YtbeppoonnbfdeaaRSpecS
set_option linter.unusedVariables false
set_option linter.unusedSimpArgs false
namespace Go.RxTree
open Go Go.Rx
/-- May a sign between two stand behind it? -/
def opnd (w : W) : Bool := decide (w.k = 1 ∨ w.k = 2) || w.sg == [41]
def opndO : Option W → Bool
  | none => false
  | some w => opnd w
def lessB (w : W) : Option (Nat × W) → Bool
  | none => true
  | some (_, v) => decide (levelK (kindW w) ≤ levelK (kindW v))
def deepW (w : W) (d : Int) : Int := if w.sg = [40] then d + 1 else if w.sg = [41] then d - 1 else d
/-- The sign that binds least, the last one of these, outside of brackets. -/
def cutW : List W → Option W → Nat → Int → Option (Nat × W) → Option (Nat × W)
  | [], _, _, _, b => b
  | w :: r, p, i, d, b =>
    if deepW w d > 0 ∨ kindW w = 0 ∨ opndO p = false then cutW r (some w) (i + 1) (deepW w d) b
    else cutW r (some w) (i + 1) (deepW w d) (if lessB w b = true then some (i, w) else b)
theorem kindW_3 {w : W} (h : kindW w ≠ 0) : w.k = 3 := by
  apply Decidable.byContradiction; intro h3
  apply h; unfold kindW W.sg; rw [if_neg h3]; decide
theorem kindW_sg {w : W} {s : List UInt8} (h : w.sg = s) : kindW w = twoK s := by unfold kindW; rw [h]
theorem op_deep {w : W} (h : kindW w ≠ 0) (d : Int) : deepW w d = d := by
  unfold deepW
  split
  · rename_i h1; exact absurd (kindW_sg h1) (fun e => h (by rw [e]; decide))
  · split
    · rename_i h1; exact absurd (kindW_sg h1) (fun e => h (by rw [e]; decide))
    · rfl
theorem op_opnd {w : W} (h : kindW w ≠ 0) : opnd w = false := by
  have h3 := kindW_3 h
  unfold opnd
  rw [Bool.or_eq_false_iff]
  refine ⟨by simp; omega, ?_⟩
  apply beq_false_of_ne
  intro h1; exact absurd (kindW_sg h1) (fun e => h (by rw [e]; decide))
def LowB (lo : Int) (b : Option (Nat × W)) : Prop := ∀ n v, b = some (n, v) → lo ≤ levelK (kindW v)
theorem level_lt6 {w : W} (h : kindW w ≠ 0) : levelK (kindW w) < 6 := by
  have h1 : levelK (kindW w) ≠ 6 := fun e => h ((level6 _).1 e)
  have : levelK (kindW w) ≤ 6 := by unfold levelK; repeat' split
                                    all_goals omega
  omega
theorem cut_seg {lo : Int} {a : List W} {x : T} (h : Seg lo a x) : ∀ (r : List W) (p : Option W) (i : Nat) (d : Int) (b : Option (Nat × W)), 0 ≤ d → opndO p = false →
    ∃ b' q, opnd q = true ∧ cutW (a ++ r) p i d b = cutW r (some q) (i + a.length) d b' ∧ (d > 0 → b' = b) ∧ (d = 0 → (lo ≥ 6 → b' = b) ∧ ((∃ n v, b = some (n, v) ∧ levelK (kindW v) < lo) → b' = b) ∧ (LowB lo b → LowB lo b')) := by
  induction h with
  | word w hk =>
    intro r p i d b hd hp
    have hs : w.sg = [] := by unfold W.sg; rw [if_neg (by omega)]
    refine ⟨b, w, ?_, ?_, fun _ => rfl, fun _ => ⟨fun _ => rfl, fun _ => rfl, fun h => h⟩⟩
    · unfold opnd; rw [decide_eq_true hk]; rfl
    · rw [List.singleton_append, cutW, if_pos (.inr (.inl (by rw [kindW_sg hs]; decide)))]
      unfold deepW; rw [hs]; rfl
  | un w a x hs _ ih =>
    intro r p i d b hd hp
    have hop : opnd w = false := by
      have h3 : w.k = 3 := by
        apply Decidable.byContradiction; intro h3
        unfold W.sg at hs; rw [if_neg h3] at hs; simp at hs
      unfold opnd
      rw [Bool.or_eq_false_iff]
      exact ⟨by simp; omega, by rcases hs with h | h <;> rw [h] <;> decide⟩
    have hdw : deepW w d = d := by unfold deepW; rcases hs with h | h <;> rw [h] <;> rfl
    obtain ⟨b', q, h1, h2, h3, h4⟩ := ih r (some w) (i + 1) d b hd hop
    refine ⟨b', q, h1, ?_, h3, h4⟩
    rw [List.cons_append, cutW, if_pos (.inr (.inr hp)), hdw, h2, List.length_cons]
    congr 1; omega
  | br w v a x hs hv _ ih =>
    intro r p i d b hd hp
    have h3 : w.k = 3 := by
      apply Decidable.byContradiction; intro h3
      unfold W.sg at hs; rw [if_neg h3] at hs; simp at hs
    have hop : opnd w = false := by
      unfold opnd
      rw [Bool.or_eq_false_iff]
      exact ⟨by simp; omega, by rw [hs]; decide⟩
    have hdw : deepW w d = d + 1 := by unfold deepW; rw [hs]; rfl
    have hdv : deepW v (d + 1) = d := by unfold deepW; rw [hv]; simp
    obtain ⟨b', q, h1, h2, h3', h4⟩ := ih (v :: r) (some w) (i + 1) (d + 1) b (by omega) hop
    have hb := h3' (by omega)
    subst hb
    refine ⟨b', v, by unfold opnd; rw [hv]; simp, ?_, fun _ => rfl, fun _ => ⟨fun _ => rfl, fun _ => rfl, fun h => h⟩⟩
    rw [List.cons_append, List.append_assoc, cutW, hdw, if_pos (.inl (by omega)), List.singleton_append, h2, cutW, hdv, if_pos (.inr (.inl (by rw [kindW_sg hv]; decide)))]
    simp only [List.length_cons, List.length_append, List.length_nil]
    congr 1; omega
  | bin lo a b0 w x y _ _ hk0 hkl iha ihb =>
    intro r p i d b hd hp
    have hl6 := level_lt6 hk0
    obtain ⟨b1, q1, g1, g2, g3, g4⟩ := iha (w :: (b0 ++ r)) p i d b hd hp
    have hop := op_opnd hk0
    have hdw := op_deep hk0 d
    have e0 : cutW ((a ++ w :: b0) ++ r) p i d b = cutW (w :: (b0 ++ r)) (some q1) (i + a.length) d b1 := by
      rw [List.append_assoc, List.cons_append, g2]
    by_cases hd0 : d > 0
    · obtain ⟨b2, q2, k1, k2, k3, k4⟩ := ihb r (some w) (i + a.length + 1) d b1 hd hop
      refine ⟨b2, q2, k1, ?_, fun _ => by rw [k3 hd0, g3 hd0], fun h => by omega⟩
      rw [e0, cutW, hdw, if_pos (.inl hd0), k2]
      simp only [List.length_cons, List.length_append]
      congr 1; omega
    · have hd1 : d = 0 := by omega
      obtain ⟨b2, q2, k1, k2, k3, k4⟩ := ihb r (some w) (i + a.length + 1) d (if lessB w b1 = true then some (i + a.length, w) else b1) hd hop
      obtain ⟨m1, m2, m3⟩ := g4 hd1
      obtain ⟨n1, n2, n3⟩ := k4 hd1
      refine ⟨b2, q2, k1, ?_, fun h => absurd h hd0, fun _ => ⟨fun h => by omega, ?_, ?_⟩⟩
      · rw [e0, cutW, hdw, if_neg (by rintro (h | h | h); exact hd0 h; exact hk0 h; simp [opndO, g1] at h), k2]
        simp only [List.length_cons, List.length_append]
        congr 1; omega
      · rintro ⟨n, v, rfl, hv⟩
        have hb1 := m2 ⟨n, v, rfl, hv⟩
        subst hb1
        have hless : lessB w (some (n, v)) = false := by unfold lessB; simp; omega
        rw [hless, if_neg (by simp)] at n2
        exact n2 ⟨n, v, rfl, by omega⟩
      · intro hlow
        have hb1 := m3 hlow
        have hless : lessB w b1 = true := by
          unfold lessB
          cases b1 with
          | none => rfl
          | some nv => obtain ⟨n, v⟩ := nv; have := hb1 n v rfl; simp; omega
        rw [hless, if_pos rfl] at n2
        have := n2 ⟨_, w, rfl, by omega⟩
        subst this
        intro n v hnv
        injection hnv with hnv
        injection hnv with _ hnv
        subst hnv; omega
  | weak lo a x _ ih =>
    intro r p i d b hd hp
    obtain ⟨b', q, h1, h2, h3, h4⟩ := ih r p i d b hd hp
    refine ⟨b', q, h1, h2, h3, fun hd0 => ?_⟩
    obtain ⟨m1, m2, m3⟩ := h4 hd0
    refine ⟨fun h => m1 (by omega), fun ⟨n, v, hb, hv⟩ => m2 ⟨n, v, hb, by omega⟩, fun hlow => ?_⟩
    by_cases hl : LowB (lo + 1) b
    · exact fun n v hb => by have := m3 hl n v hb; omega
    · have : ∃ n v, b = some (n, v) ∧ levelK (kindW v) < lo + 1 := by
        apply Classical.byContradiction
        intro hn
        exact hl (fun n v hb => Decidable.byContradiction fun h => hn ⟨n, v, hb, by omega⟩)
      rw [m2 this]; exact hlow
/-- What is not of two is not cut. -/
theorem cut_none {a : List W} {x : T} (h : Seg 6 a x) : cutW a none 0 0 none = none := by
  obtain ⟨b', q, h1, h2, h3, h4⟩ := cut_seg h [] none 0 0 none (by omega) rfl
  rw [List.append_nil] at h2
  rw [h2, (h4 rfl).1 (by omega)]; rfl
/-- What is of two is cut between them. -/
theorem cut_bin {lo : Int} {a b : List W} {w : W} {x y : T} (ha : Seg lo a x) (hb : Seg (lo + 1) b y) (hk0 : kindW w ≠ 0) (hkl : levelK (kindW w) = lo) : cutW (a ++ w :: b) none 0 0 none = some (a.length, w) := by
  obtain ⟨b1, q1, g1, g2, g3, g4⟩ := cut_seg ha (w :: b) none 0 0 none (by omega) rfl
  obtain ⟨m1, m2, m3⟩ := g4 rfl
  have hb1 := m3 (fun n v h => by cases h)
  have hless : lessB w b1 = true := by
    unfold lessB
    cases b1 with
    | none => rfl
    | some nv => obtain ⟨n, v⟩ := nv; have := hb1 n v rfl; simp; omega
  rw [g2, cutW, op_deep hk0, if_neg (by rintro (h | h | h); omega; exact hk0 h; simp [opndO, g1] at h), hless, if_pos rfl]
  obtain ⟨b2, q2, k1, k2, k3, k4⟩ := cut_seg hb [] (some w) (0 + a.length + 1) 0 (some (0 + a.length, w)) (by omega) (op_opnd hk0)
  rw [List.append_nil] at k2
  rw [k2, (k4 rfl).2.1 ⟨_, w, rfl, by omega⟩, Nat.zero_add]; rfl
theorem seg_ne {lo : Int} {a : List W} {x : T} (h : Seg lo a x) : 0 < a.length := by
  induction h with
  | word => simp
  | un => simp
  | br => simp
  | bin => simp only [List.length_append, List.length_cons]; omega
  | weak _ _ _ _ ih => exact ih
end Go.RxTree
