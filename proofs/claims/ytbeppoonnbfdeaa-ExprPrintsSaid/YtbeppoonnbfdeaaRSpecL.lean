/- The words of a text. -/
import Derived.Test.YtbeppoonnbfdeaaRSpecE
set_option linter.unusedVariables false
set_option linter.unusedSimpArgs false
namespace Go.RxTree
open Go Go.Rx
def dig (c : UInt8) : Int := ((c.toNat - 48 : Nat) : Int)
/-- Digits, from here: which number, and where they end; none: too great. -/
def numS : Nat → Int → List UInt8 → Option (Int × Nat)
  | i, nv, [] => some (nv, i)
  | i, nv, c :: r => if kindB c = 1 then (if nv > ((9223372036854775807 : Int) - dig c).tdiv 10 then none else numS (i + 1) (nv * 10 + dig c) r) else some (nv, i)
/-- Where a name ends. -/
def nameS : Nat → List UInt8 → Nat
  | i, [] => i
  | i, c :: r => if kindB c = 2 ∨ kindB c = 1 then nameS (i + 1) r else i
def isName (s : List UInt8) (b : Nat) : Bool := match s[b]? with
  | some c => kindB c == 2
  | none => false
/-- The words from here on, behind these; or what is wrong first, and where. -/
def splitA (s : List UInt8) : Nat → Nat → List W → List W × Int × Int
  | 0, _, acc => (acc, 0, 0)
  | m + 1, i, acc => match s[i]? with
    | none => (acc, 0, 0)
    | some c =>
      if kindB c = 0 then splitA s m (i + 1) acc
      else if kindB c = 1 then match numS (i + 1) (dig c) (s.drop (i + 1)) with
        | none => ([], 13, (i : Int))
        | some (v, b) => if isName s b then ([], 3, (b : Int)) else splitA s m b (acc ++ [⟨1, [], v, (i : Int)⟩])
      else if kindB c = 2 then
        if nameS (i + 1) (s.drop (i + 1)) - i > 32 then ([], 3, (i : Int)) else splitA s m (nameS (i + 1) (s.drop (i + 1))) (acc ++ [⟨2, (s.take (nameS (i + 1) (s.drop (i + 1)))).drop i, 0, (i : Int)⟩])
      else if kindB c = 3 then splitA s m (i + 1) (acc ++ [⟨3, (s.take (i + 1)).drop i, 0, (i : Int)⟩])
      else ([], 3, (i : Int))
def splitS (s : List UInt8) : List W × Int × Int := if s.length > 4096 then ([], 6, 0) else splitA s s.length 0 []
theorem kind_of (c : UInt8) : kindB c = 0 ∨ kindB c = 1 ∨ kindB c = 2 ∨ kindB c = 3 ∨ kindB c = -1 := by
  unfold kindB
  repeat' split
  all_goals omega
theorem kind_d {c : UInt8} (h : kindB c = 1) : 48 ≤ c.toNat ∧ c.toNat ≤ 57 := by
  unfold kindB at h
  split at h
  · omega
  · split at h
    · assumption
    · split at h
      · omega
      · split at h <;> omega
theorem tdiv10 (x : Int) (h : 0 ≤ x) : x.tdiv 10 = x / 10 := Int.tdiv_eq_ediv_of_nonneg h
theorem numS_b : ∀ (r : List UInt8) (i : Nat) (nv v : Int) (b : Nat), numS i nv r = some (v, b) → 0 ≤ nv → nv ≤ 9223372036854775807 → i ≤ b ∧ b ≤ i + r.length ∧ 0 ≤ v ∧ v ≤ 9223372036854775807
  | [], i, nv, v, b, h, h0, h1 => by
    rw [numS] at h; injection h with h; injection h with h2 h3; subst h2 h3
    simp; omega
  | c :: r, i, nv, v, b, h, h0, h1 => by
    rw [numS] at h
    split at h
    · rename_i hk
      have := kind_d hk
      have hd : 0 ≤ dig c ∧ dig c ≤ 9 := by unfold dig; omega
      split at h
      · cases h
      · rename_i hn
        rw [tdiv10 _ (by omega)] at hn
        have := numS_b r (i + 1) _ v b h (by omega) (by omega)
        simp only [List.length_cons]; omega
    · injection h with h; injection h with h2 h3; subst h2 h3
      simp only [List.length_cons]; omega
theorem nameS_b : ∀ (r : List UInt8) (i : Nat), i ≤ nameS i r ∧ nameS i r ≤ i + r.length
  | [], i => by rw [nameS]; simp
  | c :: r, i => by
    rw [nameS]
    have := nameS_b r (i + 1)
    simp only [List.length_cons]
    split <;> omega
theorem splitA_len (s : List UInt8) : ∀ (m i : Nat) (acc : List W), (splitA s m i acc).1.length ≤ acc.length + m := by
  intro m
  induction m with
  | zero => intro i acc; simp [splitA]
  | succ m ih =>
    intro i acc
    rw [splitA]
    split
    · simp
    · split
      · have := ih (i + 1) acc; omega
      · split
        · split
          · simp
          · split
            · simp
            · rename_i v b _ _; have := ih b (acc ++ [⟨1, [], v, (i : Int)⟩]); simp at this ⊢; omega
        · split
          · split
            · simp
            · have := ih (nameS (i + 1) (s.drop (i + 1))) (acc ++ [⟨2, (s.take (nameS (i + 1) (s.drop (i + 1)))).drop i, 0, (i : Int)⟩]); simp at this ⊢; omega
          · split
            · have := ih (i + 1) (acc ++ [⟨3, (s.take (i + 1)).drop i, 0, (i : Int)⟩]); simp at this ⊢; omega
            · simp
/-- The words of a text lie in it; what is wrong lies in it. -/
theorem splitA_good (s : List UInt8) (hs : s.length ≤ 4096) : ∀ (m i : Nat) (acc : List W), (∀ w ∈ acc, w.Good s.length) →
    ((splitA s m i acc).2.1 = 0 ∧ (splitA s m i acc).2.2 = 0 ∧ ∀ w ∈ (splitA s m i acc).1, w.Good s.length) ∨
    ((splitA s m i acc).1 = [] ∧ ((splitA s m i acc).2.1 = 3 ∨ (splitA s m i acc).2.1 = 13) ∧ 0 ≤ (splitA s m i acc).2.2 ∧ (splitA s m i acc).2.2 ≤ s.length) := by
  intro m
  induction m with
  | zero => intro i acc h; rw [splitA]; exact .inl ⟨rfl, rfl, h⟩
  | succ m ih =>
    intro i acc h
    have hadd : ∀ w : W, w.Good s.length → ∀ x ∈ acc ++ [w], x.Good s.length := by
      intro w hw x hx
      rcases List.mem_append.1 hx with hx | hx
      · exact h x hx
      · rcases List.mem_singleton.1 hx with rfl
        exact hw
    rw [splitA]
    split
    · exact .inl ⟨rfl, rfl, h⟩
    · rename_i c hx
      have hi := (List.getElem?_eq_some_iff.1 hx).1
      have hdl : (s.drop (i + 1)).length = s.length - (i + 1) := List.length_drop
      have htl : ∀ b, ((s.take b).drop i).length ≤ 4096 := fun b => by rw [List.length_drop, List.length_take]; omega
      split
      · exact ih (i + 1) acc h
      · split
        · rename_i hk
          have := kind_d hk
          split
          · exact .inr ⟨rfl, .inr rfl, by simp, by simp; omega⟩
          · rename_i v b hn
            have hb := numS_b _ _ _ _ _ hn (by unfold dig; omega) (by unfold dig; omega)
            split
            · exact .inr ⟨rfl, .inl rfl, by simp, by simp; omega⟩
            · exact ih b _ (hadd _ ⟨by simp, hb.2.2.1, hb.2.2.2, by simp, by simp; omega⟩)
        · split
          · have hb := nameS_b (s.drop (i + 1)) (i + 1)
            split
            · exact .inr ⟨rfl, .inl rfl, by simp, by simp; omega⟩
            · exact ih _ _ (hadd _ ⟨htl _, by simp, by simp, by simp, by simp; omega⟩)
          · split
            · exact ih _ _ (hadd _ ⟨htl _, by simp, by simp, by simp, by simp; omega⟩)
            · exact .inr ⟨rfl, .inl rfl, by simp, by simp; omega⟩
theorem splitS_good (s : List UInt8) :
    (s.length ≤ 4096 ∧ (splitS s).2.1 = 0 ∧ (splitS s).2.2 = 0 ∧ (splitS s).1.length ≤ s.length ∧ ∀ w ∈ (splitS s).1, w.Good s.length) ∨
    ((splitS s).1 = [] ∧ (splitS s).2.1 ≠ 0 ∧ 0 ≤ (splitS s).2.2 ∧ (splitS s).2.2 ≤ s.length) := by
  unfold splitS
  split
  · exact .inr ⟨rfl, by simp, by simp, by simp⟩
  · rcases splitA_good s (by omega) s.length 0 [] (by simp) with ⟨h1, h2, h3⟩ | ⟨h1, h2, h3, h4⟩
    · have := splitA_len s s.length 0 []
      exact .inl ⟨by omega, h1, h2, by simpa using this, h3⟩
    · exact .inr ⟨h1, by rcases h2 with h | h <;> rw [h] <;> decide, h3, h4⟩
end Go.RxTree
