/- Numbers, texts and trees off bytes: what reading comes to. -/
import Derived.Test.YtahnmikdpclbfaaRSpecU
import Derived.Test.YtahnmikdpclbfaaRSpecB
set_option linter.unusedVariables false
set_option linter.unusedSimpArgs false
namespace Go.RxTree
open Go Go.Rx
/-- Of the bytes from place i on, with what was read: the number, how many bytes it took in all, what is wrong. -/
def rdUG : Nat → Nat → List UInt8 → Nat × Nat × Int
  | _, _, [] => (0, 0, 5)
  | i, acc, c :: r =>
    if i = 9 ∧ 1 < c.toNat then (0, 0, 2)
    else if c.toNat < 128 then (if c.toNat = 0 ∧ 0 < i then (0, 0, 2) else (acc + c.toNat % 128 * 128 ^ i, i + 1, 0))
    else rdUG (i + 1) (acc + c.toNat % 128 * 128 ^ i) r
def rdU (b : List UInt8) : Nat × Nat × Int := rdUG 0 0 b
def rest (b : List UInt8) (k : Nat) (e : Int) : List UInt8 := if e = 0 then b.drop k else []
def rdI (b : List UInt8) : Int × Nat × Int := (zag (rdU b).1, (rdU b).2.1, (rdU b).2.2)
def rdB (b : List UInt8) : List UInt8 × Nat × Int :=
  if (rdU b).2.2 ≠ 0 then ([], 0, (rdU b).2.2)
  else if b.length - (rdU b).2.1 < (rdU b).1 then ([], 0, 5)
  else ((b.drop (rdU b).2.1).take (rdU b).1, (rdU b).2.1 + (rdU b).1, 0)
abbrev T0 : T := .mk 0 0 [] []
def kidsK (k : Int) : Int := if k = 3 ∨ k = 4 then 0 else if k = 5 ∨ k = 6 then 1 else if 7 ≤ k ∧ k ≤ 14 then 2 else -1
/-- So many depths are left. -/
def rdT : Nat → List UInt8 → T × Nat × Int
  | 0, _ => (T0, 0, 6)
  | m + 1, [] => (T0, 0, 5)
  | m + 1, c :: r =>
    if (c.toNat : Int) = 1 then (.mk 1 (rdI r).1 [] [], 1 + (rdI r).2.1, (rdI r).2.2)
    else if (c.toNat : Int) = 2 then (.mk 2 0 (rdB r).1 [], 1 + (rdB r).2.1, (rdB r).2.2)
    else if kidsK c.toNat = 0 then (.mk c.toNat 0 [] [], 1, 0)
    else if kidsK c.toNat = 1 then
      (if (rdT m r).2.2 ≠ 0 then (T0, 0, (rdT m r).2.2) else (.mk c.toNat 0 [] [(rdT m r).1], 1 + (rdT m r).2.1, 0))
    else if kidsK c.toNat = 2 then
      (if (rdT m r).2.2 ≠ 0 then (T0, 0, (rdT m r).2.2)
       else if (rdT m (r.drop (rdT m r).2.1)).2.2 ≠ 0 then (T0, 0, (rdT m (r.drop (rdT m r).2.1)).2.2)
       else (.mk c.toNat 0 [] [(rdT m r).1, (rdT m (r.drop (rdT m r).2.1)).1], 1 + (rdT m r).2.1 + (rdT m (r.drop (rdT m r).2.1)).2.1, 0))
    else (T0, 0, 3)
def rdX (b : List UInt8) : T × Nat × Int :=
  let e := if (rdT 16 b).2.2 = 0 then checkT (rdT 16 b).1 1 else (rdT 16 b).2.2
  if e ≠ 0 then (T0, 0, e) else ((rdT 16 b).1, (rdT 16 b).2.1, 0)
theorem rdUG_b : ∀ (b : List UInt8) (i acc : Nat), i ≤ 9 → acc < 128 ^ i → ((rdUG i acc b).2.2 = 0 → (rdUG i acc b).2.1 ≤ i + b.length ∧ i < (rdUG i acc b).2.1 ∧ (rdUG i acc b).2.1 ≤ 10) ∧ (rdUG i acc b).1 < 18446744073709551616 ∧ ((rdUG i acc b).2.2 ≠ 0 → (rdUG i acc b).1 = 0 ∧ (rdUG i acc b).2.1 = 0)
  | [], i, acc, h, ha => by simp [rdUG]
  | c :: r, i, acc, h, ha => by
    have hc : c.toNat < 256 := c.toNat_lt
    have hp : 128 ^ i ≤ 128 ^ 9 := Nat.pow_le_pow_right (by omega) h
    rw [rdUG]
    split
    · simp
    · rename_i h9
      split
      · split
        · simp
        · rename_i hlt _
          refine ⟨fun _ => by simp only [List.length_cons]; omega, ?_, fun hh => absurd rfl hh⟩
          show acc + c.toNat % 128 * 128 ^ i < _
          by_cases h2 : i = 9
          · subst h2; omega
          · have hp2 : 128 ^ i ≤ 128 ^ 8 := Nat.pow_le_pow_right (by omega) (by omega)
            have : c.toNat % 128 * 128 ^ i ≤ 127 * 128 ^ 8 := Nat.mul_le_mul (by omega) hp2
            omega
      · rename_i hlt
        have h2 : i ≠ 9 := fun e => h9 ⟨e, by omega⟩
        have hm : c.toNat % 128 * 128 ^ i ≤ 127 * 128 ^ i := Nat.mul_le_mul_right _ (by omega)
        obtain ⟨a1, a2, a3⟩ := rdUG_b r (i + 1) (acc + c.toNat % 128 * 128 ^ i) (by omega) (by rw [Nat.pow_succ]; omega)
        exact ⟨fun he => by obtain ⟨b1, b2, b3⟩ := a1 he; simp only [List.length_cons]; omega, a2, a3⟩
theorem rdU_b (b : List UInt8) : ((rdU b).2.2 = 0 → (rdU b).2.1 ≤ b.length ∧ 0 < (rdU b).2.1 ∧ (rdU b).2.1 ≤ 10) ∧ (rdU b).1 < 18446744073709551616 ∧ ((rdU b).2.2 ≠ 0 → (rdU b).1 = 0 ∧ (rdU b).2.1 = 0) := by
  have := rdUG_b b 0 0 (by omega) (by omega)
  unfold rdU
  simpa using this
end Go.RxTree
