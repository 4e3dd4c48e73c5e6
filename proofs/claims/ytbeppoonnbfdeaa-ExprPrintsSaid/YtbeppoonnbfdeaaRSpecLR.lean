/- The words of a text, as the document's answer has them. -/
import Derived.Test.YtbeppoonnbfdeaaRSpecL
set_option linter.unusedVariables false
set_option linter.unusedSimpArgs false
namespace Go.RxTree
open Go Go.Rx
/-- Digits as a number: whether it fits, and how far it came. -/
def numE : Nat → List UInt8 → Bool × Nat
  | n, [] => (true, n)
  | n, c :: r => if n > 922337203685477580 then (false, n) else if n * 10 + c.toNat - 48 > 9223372036854775807 then (false, n * 10 + c.toNat - 48) else numE (n * 10 + c.toNat - 48) r
/-- Where digits end. -/
def digE : Nat → List UInt8 → Nat
  | i, [] => i
  | i, c :: r => if kindB c = 1 then digE (i + 1) r else i
theorem digE_b : ∀ (r : List UInt8) (i : Nat), i ≤ digE i r ∧ digE i r ≤ i + r.length
  | [], i => by rw [digE]; simp
  | c :: r, i => by
    rw [digE]
    have := digE_b r (i + 1)
    simp only [List.length_cons]
    split <;> omega
theorem digE_shift : ∀ (r : List UInt8) (i a : Nat), digE (i + a) r = digE i r + a
  | [], i, a => rfl
  | c :: r, i, a => by
    rw [digE, digE]
    split
    · rw [show i + a + 1 = (i + 1) + a by omega, digE_shift r (i + 1) a]
    · rfl
theorem nameS_shift : ∀ (r : List UInt8) (i a : Nat), nameS (i + a) r = nameS i r + a
  | [], i, a => rfl
  | c :: r, i, a => by
    rw [nameS, nameS]
    split
    · rw [show i + a + 1 = (i + 1) + a by omega, nameS_shift r (i + 1) a]
    · rfl
/-- All digits up to where these end. -/
theorem digE_all : ∀ (r : List UInt8) (i : Nat), ∀ c ∈ r.take (digE i r - i), kindB c = 1
  | [], i => by simp
  | c :: r, i => by
    rw [digE]
    split
    · rename_i h
      have hb := digE_b r (i + 1)
      rw [show digE (i + 1) r - i = (digE (i + 1) r - (i + 1)) + 1 by omega, List.take_succ_cons]
      intro d hd
      rcases List.mem_cons.1 hd with rfl | hd
      · exact h
      · exact digE_all r (i + 1) d hd
    · simp
/-- Behind the digits none stands. -/
theorem digE_end : ∀ (r : List UInt8) (i : Nat) (c : UInt8), r[digE i r - i]? = some c → kindB c ≠ 1
  | [], i, c => by simp
  | c :: r, i, d => by
    rw [digE]
    split
    · rename_i h
      have hb := digE_b r (i + 1)
      rw [show digE (i + 1) r - i = (digE (i + 1) r - (i + 1)) + 1 by omega, List.getElem?_cons_succ]
      exact digE_end r (i + 1) d
    · rename_i h
      simp only [Nat.sub_self, List.getElem?_cons_zero, Option.some.injEq]
      rintro rfl; exact h
/-- Both read the same number out of digits. -/
theorem num_same : ∀ (r : List UInt8) (i n : Nat), n ≤ 9223372036854775807 →
    numS i (n : Int) r = if (numE n (r.take (digE i r - i))).1 = true then some (((numE n (r.take (digE i r - i))).2 : Int), digE i r) else none
  | [], i, n, hn => by rw [numS, digE]; simp [numE]
  | c :: r, i, n, hn => by
    rw [numS, digE]
    by_cases hk : kindB c = 1
    · rw [if_pos hk, if_pos hk]
      have hkd := kind_d hk
      have hb := digE_b r (i + 1)
      rw [show digE (i + 1) r - i = (digE (i + 1) r - (i + 1)) + 1 by omega, List.take_succ_cons, numE]
      have hd : dig c = ((c.toNat - 48 : Nat) : Int) := rfl
      rw [tdiv10 _ (by rw [hd]; omega)]
      by_cases h1 : n > 922337203685477580
      · rw [if_pos h1, if_pos (by rw [hd]; omega)]; rfl
      · rw [if_neg h1]
        by_cases h2 : n * 10 + c.toNat - 48 > 9223372036854775807
        · rw [if_pos h2, if_pos (by rw [hd]; omega)]; rfl
        · rw [if_neg h2, if_neg (by rw [hd]; omega)]
          have e : (n : Int) * 10 + dig c = ((n * 10 + c.toNat - 48 : Nat) : Int) := by rw [hd]; omega
          rw [e, num_same r (i + 1) _ (by omega)]
    · rw [if_neg hk, if_neg hk]
      simp [numE]
/-- The word that a text begins with; how many bytes it has; what is wrong, and how far in. -/
def oneW (s : List UInt8) (c : UInt8) : W × Nat × Int × Nat :=
  if kindB c = 3 then (⟨3, s.take 1, 0, 0⟩, 1, 0, 0)
  else if kindB c = 1 then
    if (numE 0 (s.take (digE 1 (s.drop 1)))).1 = false then (⟨0, [], 0, 0⟩, 0, 13, 0)
    else if isName s (digE 1 (s.drop 1)) = true then (⟨0, [], 0, 0⟩, 0, 3, digE 1 (s.drop 1))
    else (⟨1, [], ((numE 0 (s.take (digE 1 (s.drop 1)))).2 : Int), 0⟩, digE 1 (s.drop 1), 0, 0)
  else if kindB c = 2 then
    if nameS 1 (s.drop 1) > 32 then (⟨0, [], 0, 0⟩, 0, 3, 0)
    else (⟨2, s.take (nameS 1 (s.drop 1)), 0, 0⟩, nameS 1 (s.drop 1), 0, 0)
  else (⟨0, [], 0, 0⟩, 0, 3, 0)
/-- The words from here on. -/
def splitR (s : List UInt8) : Nat → Nat → List W → List W × Int × Int
  | 0, _, acc => (acc, 0, 0)
  | m + 1, i, acc => match s[i]? with
    | none => (acc, 0, 0)
    | some c => if c = 32 then splitR s m (i + 1) acc
      else if (oneW (s.drop i) c).2.2.1 ≠ 0 then ([], (oneW (s.drop i) c).2.2.1, (i : Int) + (oneW (s.drop i) c).2.2.2)
      else splitR s m (i + (oneW (s.drop i) c).2.1) (acc ++ [{ (oneW (s.drop i) c).1 with at' := (i : Int) }])
theorem kind_0 {c : UInt8} : kindB c = 0 ↔ c = 32 := by
  constructor
  · intro h
    unfold kindB at h
    split at h
    · rename_i h1
      exact UInt8.toNat_inj.1 h1
    · repeat' split at h
      all_goals omega
  · rintro rfl; decide
theorem isName_drop (s : List UInt8) (i b : Nat) : isName (s.drop i) b = isName s (i + b) := by unfold isName; rw [List.getElem?_drop]
/-- Both say the same of a text's words. -/
theorem split_same (s : List UInt8) : ∀ (m i : Nat) (acc : List W), splitA s m i acc = splitR s m i acc := by
  intro m
  induction m with
  | zero => intro i acc; rfl
  | succ m ih =>
    intro i acc
    rw [splitA, splitR]
    cases hc : s[i]? with
    | none => rfl
    | some c =>
      simp only []
      have hi := (List.getElem?_eq_some_iff.1 hc).1
      have hdl : (s.drop i).length = s.length - i := List.length_drop
      have hd1 : (s.drop i).drop 1 = s.drop (i + 1) := by rw [List.drop_drop]
      have htd : ∀ b, ((s.take (i + b)).drop i) = (s.drop i).take b := fun b => by rw [List.drop_take]; congr 1; omega
      by_cases h0 : kindB c = 0
      · rw [if_pos h0, if_pos (kind_0.1 h0)]; exact ih _ _
      · rw [if_neg h0, if_neg (fun h => h0 (kind_0.2 h))]
        unfold oneW
        rw [hd1]
        have hnS : nameS (i + 1) (s.drop (i + 1)) = nameS 1 (s.drop (i + 1)) + i := by rw [Nat.add_comm i 1]; exact nameS_shift _ 1 i
        have hdE : digE (i + 1) (s.drop (i + 1)) = digE 1 (s.drop (i + 1)) + i := by rw [Nat.add_comm i 1]; exact digE_shift _ 1 i
        rcases kind_of c with hk | hk | hk | hk | hk
        · exact absurd hk h0
        · have hkd := kind_d hk
          have hb := digE_b (s.drop (i + 1)) 1
          simp only [hk, Int.reduceEq, if_true, if_false]
          have e0 : numE 0 ((s.drop i).take (digE 1 (s.drop (i + 1)))) = numE (c.toNat - 48) ((s.drop (i + 1)).take (digE 1 (s.drop (i + 1)) - 1)) := by
            rw [show s.drop i = c :: s.drop (i + 1) by obtain ⟨h1, e1⟩ := List.getElem?_eq_some_iff.1 hc; rw [List.drop_eq_getElem_cons h1, e1]]
            obtain ⟨q, hq⟩ : ∃ q, digE 1 (s.drop (i + 1)) = q + 1 := ⟨digE 1 (s.drop (i + 1)) - 1, by omega⟩
            rw [hq, List.take_succ_cons, numE, if_neg (by omega), if_neg (by omega)]
            simp
          have hns := num_same (s.drop (i + 1)) (i + 1) (c.toNat - 48) (by omega)
          rw [hdE, show digE 1 (s.drop (i + 1)) + i - (i + 1) = digE 1 (s.drop (i + 1)) - 1 by omega, ← e0] at hns
          rw [show dig c = ((c.toNat - 48 : Nat) : Int) from rfl, hns]
          cases hq : (numE 0 ((s.drop i).take (digE 1 (s.drop (i + 1))))).1
          · simp
          · simp only [if_true, Bool.true_eq_false, if_false]
            rw [isName_drop, Nat.add_comm i (digE 1 (s.drop (i + 1)))]
            by_cases hn : isName s (digE 1 (s.drop (i + 1)) + i) = true
            · rw [if_pos hn, if_pos hn, if_pos (by simp)]
              simp only [Prod.mk.injEq, true_and]; omega
            · rw [if_neg hn, if_neg hn, if_neg (by simp), ih, Nat.add_comm]
        · simp only [hk, Int.reduceEq, if_true, if_false]
          rw [hnS]
          by_cases hl : nameS 1 (s.drop (i + 1)) > 32
          · rw [if_pos (show nameS 1 (s.drop (i + 1)) + i - i > 32 by omega)]
            simp [hl]
          · rw [if_neg (show ¬ nameS 1 (s.drop (i + 1)) + i - i > 32 by omega)]
            simp only [hl, if_false, ne_eq, not_true]
            rw [Nat.add_comm (nameS 1 (s.drop (i + 1))) i, htd, ih]
        · simp only [hk, Int.reduceEq, if_true, if_false, ne_eq, not_true]
          rw [htd 1, ih]
        · simp [hk]
/-- The words are of the three kinds. -/
theorem splitA_wf (s : List UInt8) : ∀ (m i : Nat) (acc : List W), (∀ w ∈ acc, w.k = 1 ∨ w.k = 2 ∨ (w.k = 3 ∧ w.t ≠ [])) → ∀ w ∈ (splitA s m i acc).1, w.k = 1 ∨ w.k = 2 ∨ (w.k = 3 ∧ w.t ≠ []) := by
  intro m
  induction m with
  | zero => intro i acc h; exact h
  | succ m ih =>
    intro i acc h
    have hadd : ∀ w : W, (w.k = 1 ∨ w.k = 2 ∨ (w.k = 3 ∧ w.t ≠ [])) → ∀ x ∈ acc ++ [w], x.k = 1 ∨ x.k = 2 ∨ (x.k = 3 ∧ x.t ≠ []) := fun w hw x hx => by
      rcases List.mem_append.1 hx with hx | hx
      · exact h x hx
      · rcases List.mem_singleton.1 hx with rfl; exact hw
    rw [splitA]
    split
    · exact h
    · rename_i c hx
      have hi := (List.getElem?_eq_some_iff.1 hx).1
      split
      · exact ih _ _ h
      · split
        · split
          · simp
          · split
            · simp
            · exact ih _ _ (hadd _ (.inl rfl))
        · split
          · split
            · simp
            · exact ih _ _ (hadd _ (.inr (.inl rfl)))
          · split
            · refine ih _ _ (hadd _ (.inr (.inr ⟨rfl, ?_⟩)))
              intro he
              have := congrArg List.length he
              simp at this; omega
            · simp
end Go.RxTree
