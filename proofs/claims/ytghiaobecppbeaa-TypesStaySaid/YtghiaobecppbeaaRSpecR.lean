/- Variables renamed, and asked for. -/
import Derived.Test.YtghiaobecppbeaaRSpecP
import Derived.Test.YtghiaobecppbeaaRSpecW
open Go Go.Rx
namespace Go.RxTree
set_option linter.unusedVariables false
set_option linter.unusedSimpArgs false
mutual
/-- Names and rows are short. -/
def T.Few : T → Prop
  | .mk _ _ s l => s.length ≤ 50000 ∧ l.length ≤ 1000 ∧ FewL l
def FewL : List T → Prop
  | [] => True
  | t :: r => t.Few ∧ FewL r
end
theorem FewL_mem : ∀ {l : List T} {t : T}, FewL l → t ∈ l → t.Few
  | a :: r, t, h, hm => by
    rcases List.mem_cons.1 hm with rfl | hm
    · exact h.1
    · exact FewL_mem h.2 hm
mutual
theorem weighT_few : ∀ (t : T) (most deep : Int), t.Ok → 0 ≤ most → most ≤ 1000 → weighT t most deep ≤ most → t.Few
  | .mk k n s l, most, deep, ho, h0, h1, h => by
    rw [weighT] at h
    have h2 := weighL_few l most deep (1 + (s.length : Int) / 40) ho.2.2.2.2 (by have := Int.ediv_nonneg (show 0 ≤ (s.length : Int) by omega) (show (0 : Int) ≤ 40 by omega); omega) h1 h
    exact ⟨by omega, by omega, h2.2⟩
theorem weighL_few : ∀ (l : List T) (most deep n : Int), OkL l → 1 ≤ n → most ≤ 1000 → weighL l most deep n ≤ most → n + l.length ≤ most ∧ FewL l
  | [], most, deep, n, ho, h0, h1, h => by rw [weighL] at h; exact ⟨by simpa using h, trivial⟩
  | t :: r, most, deep, n, ho, h0, h1, h => by
    rw [weighL] at h
    by_cases hn : n ≤ most
    · rw [if_pos hn] at h
      by_cases hd : deep = 0
      · rw [if_pos hd] at h; omega
      · rw [if_neg hd] at h
        have hb := weighT_b t (most - n) (deep - 1) ho.1 (by omega)
        have h2 := weighL_few r most deep _ ho.2 (by omega) h1 h
        have h3 := weighT_few t (most - n) (deep - 1) ho.1 (by omega) (by omega) (by omega)
        exact ⟨by simp only [List.length_cons]; omega, h3, h2.2⟩
    · rw [if_neg hn] at h; omega
end
mutual
def renT (a b : List UInt8) : T → T
  | .mk k n s l => .mk k n (if k = 2 ∧ s = a then b else s) (renTs a b l)
def renTs (a b : List UInt8) : List T → List T
  | [] => []
  | t :: r => renT a b t :: renTs a b r
end
theorem renL_map (a b : List UInt8) : ∀ l : List T, renTs a b l = l.map (renT a b)
  | [] => rfl
  | t :: r => by rw [renTs, renL_map a b r]; rfl
mutual
def asksT (a : List UInt8) : T → Bool
  | .mk k n s l => (k == 2 && s == a) || asksL a l
def asksL (a : List UInt8) : List T → Bool
  | [] => false
  | t :: r => asksT a t || asksL a r
end
theorem asksL_drop {a : List UInt8} {l : List T} {i : Nat} {x : T} (h : l[i]? = some x) : asksL a (l.drop i) = (asksT a x || asksL a (l.drop (i + 1))) := by
  obtain ⟨h1, e1⟩ := List.getElem?_eq_some_iff.1 h
  rw [List.drop_eq_getElem_cons h1, asksL, e1]
mutual
theorem ren_check {a b : List UInt8} (hb : textOk 2 b = true) : ∀ (t : T) (d : Int), checkT t d = 0 → checkT (renT a b t) d = 0
  | .mk k n s l, d, h => by
    obtain ⟨h1, h2, h3, h4⟩ := checkT_inv h
    rw [renT, checkT_intro h1 (by rw [renL_map, List.length_map]; exact h2) (by split <;> first | (rename_i hh; rw [hh.1]; exact hb) | exact h3)]
    exact renL_check hb l (d + 1) h4
theorem renL_check {a b : List UInt8} (hb : textOk 2 b = true) : ∀ (l : List T) (d : Int), checkL l d = 0 → checkL (renTs a b l) d = 0
  | [], d, h => rfl
  | t :: r, d, h => by
    rw [checkL] at h
    by_cases h1 : checkT t d = 0
    · rw [if_pos h1] at h
      rw [renTs, checkL, if_pos (ren_check hb t d h1)]
      exact renL_check hb r d h
    · rw [if_neg h1] at h; exact absurd h h1
end
mutual
theorem ren_back {a b : List UInt8} : ∀ t : T, asksT b t = false → renT b a (renT a b t) = t
  | .mk k n s l, h => by
    rw [asksT, Bool.or_eq_false_iff] at h
    rw [renT, renT, renL_back l h.2]
    congr 1
    by_cases h1 : k = 2 ∧ s = a
    · rw [if_pos h1, if_pos ⟨h1.1, rfl⟩, h1.2]
    · rw [if_neg h1]
      by_cases h2 : k = 2 ∧ s = b
      · have := h.1; rw [h2.1, h2.2] at this; simp at this
      · rw [if_neg h2]
theorem renL_back {a b : List UInt8} : ∀ l : List T, asksL b l = false → renTs b a (renTs a b l) = l
  | [], h => rfl
  | t :: r, h => by
    rw [asksL, Bool.or_eq_false_iff] at h
    rw [renTs, renTs, ren_back t h.1, renL_back r h.2]
end
mutual
theorem asks_ok {a : List UInt8} : ∀ (t : T) (d : Int), checkT t d = 0 → asksT a t = true → textOk 2 a = true
  | .mk k n s l, d, h, ha => by
    obtain ⟨h1, h2, h3, h4⟩ := checkT_inv h
    rw [asksT, Bool.or_eq_true] at ha
    rcases ha with ha | ha
    · simp only [Bool.and_eq_true, beq_iff_eq] at ha
      rw [ha.1, ha.2] at h3; exact h3
    · exact asksL_ok l (d + 1) h4 ha
theorem asksL_ok {a : List UInt8} : ∀ (l : List T) (d : Int), checkL l d = 0 → asksL a l = true → textOk 2 a = true
  | [], d, h, ha => by cases ha
  | t :: r, d, h, ha => by
    rw [checkL] at h
    by_cases h1 : checkT t d = 0
    · rw [if_pos h1] at h
      rw [asksL, Bool.or_eq_true] at ha
      rcases ha with ha | ha
      · exact asks_ok t d h1 ha
      · exact asksL_ok r d h ha
    · rw [if_neg h1] at h; exact absurd h h1
end
mutual
theorem ren_few {a b : List UInt8} (hb : b.length ≤ 50000) : ∀ t : T, t.Few → (renT a b t).Few
  | .mk k n s l, h => by
    rw [renT]
    exact ⟨by split <;> first | exact hb | exact h.1, by rw [renL_map, List.length_map]; exact h.2.1, renL_few hb l h.2.2⟩
theorem renL_few {a b : List UInt8} (hb : b.length ≤ 50000) : ∀ l : List T, FewL l → FewL (renTs a b l)
  | [], h => trivial
  | t :: r, h => ⟨ren_few hb t h.1, renL_few hb r h.2⟩
end
theorem var_check (b : List UInt8) : checkT (.mk 2 0 b []) 1 = if textOk 2 b = true then 0 else 1 := by
  rw [checkT, if_neg (by omega), nodeOk, dec_t (by unfold nodeN; simp), Bool.true_and]
  cases textOk 2 b <;> rfl
mutual
theorem few_sm : ∀ t : T, t.Few → t.Sm
  | .mk k n s l, h => ⟨by have := h.1; omega, fewL_sm l h.2.2⟩
theorem fewL_sm : ∀ l : List T, FewL l → SmL l
  | [], h => trivial
  | t :: r, h => ⟨few_sm t h.1, fewL_sm r h.2⟩
end
mutual
theorem ren_ok {a b : List UInt8} (hb : b.length ≤ maxLen) : ∀ t : T, t.Ok → (renT a b t).Ok
  | .mk k n s l, h => by
    rw [renT]
    exact ⟨h.1, h.2.1, by split <;> first | exact hb | exact h.2.2.1, by rw [renL_map, List.length_map]; exact h.2.2.2.1, renL_ok hb l h.2.2.2.2⟩
theorem renL_ok {a b : List UInt8} (hb : b.length ≤ maxLen) : ∀ l : List T, OkL l → OkL (renTs a b l)
  | [], h => trivial
  | t :: r, h => ⟨ren_ok hb t h.1, renL_ok hb r h.2⟩
end
end Go.RxTree
