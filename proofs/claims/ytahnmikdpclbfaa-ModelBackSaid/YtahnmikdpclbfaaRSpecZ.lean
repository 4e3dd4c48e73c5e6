/- Numbers off bytes: how many bytes go on, and what they come to, from the last one to the first. -/
import Derived.Test.YtahnmikdpclbfaaRSpecV
set_option linter.unusedVariables false
set_option linter.unusedSimpArgs false
namespace Go.RxTree
open Go Go.Rx
/-- How many bytes ahead go on, of so many. -/
def hiN : Nat → List UInt8 → Nat
  | 0, _ => 0
  | _ + 1, [] => 0
  | m + 1, c :: r => if 127 < c.toNat then hiN m r + 1 else 0
theorem hiN_le : ∀ (m : Nat) (b : List UInt8), hiN m b ≤ m ∧ hiN m b ≤ b.length
  | 0, _ => by simp [hiN]
  | _ + 1, [] => by simp [hiN]
  | m + 1, c :: r => by
    have := hiN_le m r
    rw [hiN]; split
    · simp only [List.length_cons]; omega
    · omega
/-- Digits, the lowest first. -/
def dv : List UInt8 → Nat
  | [] => 0
  | c :: r => c.toNat % 128 + 128 * dv r
theorem dv_lt : ∀ (b : List UInt8), dv b < 128 ^ b.length
  | [] => by simp [dv]
  | c :: r => by
    have := dv_lt r
    rw [dv, List.length_cons, Nat.pow_succ]; omega
theorem rdUG_hi : ∀ (b : List UInt8) (i acc : Nat), i ≤ 9 →
    rdUG i acc b = if hiN (10 - i) b < 10 - i ∧ b.length ≤ hiN (10 - i) b then (0, 0, 5)
      else if 9 ≤ i + hiN (10 - i) b ∧ 1 < (b.getD (9 - i) 0).toNat then (0, 0, 2)
      else if 0 < i + hiN (10 - i) b ∧ (b.getD (hiN (10 - i) b) 0).toNat = 0 then (0, 0, 2)
      else (acc + dv (b.take (hiN (10 - i) b + 1)) * 128 ^ i, i + hiN (10 - i) b + 1, 0)
  | [], i, acc, h => by
    obtain ⟨m, hm⟩ : ∃ m, 10 - i = m + 1 := ⟨9 - i, by omega⟩
    rw [hm, rdUG, hiN, if_pos (by simp)]
  | c :: r, i, acc, h => by
    obtain ⟨m, hm⟩ : ∃ m, 10 - i = m + 1 := ⟨9 - i, by omega⟩
    have hm' : 9 - i = m := by omega
    rw [hm, hm', rdUG, hiN]
    by_cases h1 : i = 9 ∧ 1 < c.toNat
    · obtain ⟨rfl, h1⟩ := h1
      obtain rfl : m = 0 := by omega
      rw [if_pos ⟨rfl, h1⟩]
      by_cases h2 : 127 < c.toNat
      · rw [if_pos h2, hiN, if_neg (by simp), if_pos ⟨by omega, by simpa using h1⟩]
      · rw [if_neg h2, if_neg (by simp), if_pos ⟨by omega, by simpa using h1⟩]
    · rw [if_neg h1]
      by_cases h2 : c.toNat < 128
      · rw [if_pos h2, if_neg (show ¬ 127 < c.toNat by omega)]
        have n1 : ¬ (0 < m + 1 ∧ (c :: r).length ≤ 0) := by simp
        have n2 : ¬ (9 ≤ i + 0 ∧ 1 < ((c :: r).getD m 0).toNat) := by
          rintro ⟨a1, a2⟩
          obtain rfl : i = 9 := by omega
          obtain rfl : m = 0 := by omega
          exact h1 ⟨rfl, by simpa using a2⟩
        rw [if_neg n1, if_neg n2]
        by_cases h3 : c.toNat = 0 ∧ 0 < i
        · rw [if_pos h3, if_pos ⟨by omega, by simpa using h3.1⟩]
        · rw [if_neg h3, if_neg (by rintro ⟨a1, a2⟩; exact h3 ⟨by simpa using a2, by omega⟩)]
          simp [dv]
      · rw [if_neg h2, if_pos (show 127 < c.toNat by omega)]
        have hi9 : i ≠ 9 := fun e => h1 ⟨e, by omega⟩
        have hm1 : 10 - (i + 1) = m := by omega
        obtain ⟨q, rfl⟩ : ∃ q, m = q + 1 := ⟨m - 1, by omega⟩
        have hq : 9 - (i + 1) = q := by omega
        rw [rdUG_hi r (i + 1) _ (by omega), hm1, hq]
        have e1 : (c :: r).getD (q + 1) 0 = r.getD q 0 := by simp
        have e2 : (c :: r).getD (hiN (q + 1) r + 1) 0 = r.getD (hiN (q + 1) r) 0 := by simp
        rw [e1, e2]
        have e3 : (hiN (q + 1) r < q + 1 ∧ r.length ≤ hiN (q + 1) r) ↔ (hiN (q + 1) r + 1 < q + 1 + 1 ∧ (c :: r).length ≤ hiN (q + 1) r + 1) := by simp
        have e4 : (9 ≤ i + 1 + hiN (q + 1) r ∧ 1 < (r.getD q 0).toNat) ↔ (9 ≤ i + (hiN (q + 1) r + 1) ∧ 1 < (r.getD q 0).toNat) := by
          rw [show i + 1 + hiN (q + 1) r = i + (hiN (q + 1) r + 1) by omega]
        have e5 : (0 < i + 1 + hiN (q + 1) r ∧ (r.getD (hiN (q + 1) r) 0).toNat = 0) ↔ (0 < i + (hiN (q + 1) r + 1) ∧ (r.getD (hiN (q + 1) r) 0).toNat = 0) := by
          rw [show i + 1 + hiN (q + 1) r = i + (hiN (q + 1) r + 1) by omega]
        simp only [e3, e4, e5]
        split
        · rfl
        · split
          · rfl
          · split
            · rfl
            · rw [List.take_succ_cons, dv, Nat.pow_succ]
              refine Prod.ext ?_ (Prod.ext (by show i + 1 + hiN (q + 1) r + 1 = i + (hiN (q + 1) r + 1) + 1; omega) rfl)
              show acc + c.toNat % 128 * 128 ^ i + dv (r.take (hiN (q + 1) r + 1)) * (128 ^ i * 128) = acc + (c.toNat % 128 + 128 * dv (r.take (hiN (q + 1) r + 1))) * 128 ^ i
              rw [Nat.add_mul, Nat.mul_comm (128 ^ i) 128, ← Nat.mul_assoc, Nat.mul_comm (dv _) 128]; omega
/-- The four ends of reading a number. -/
theorem rdU_hi (b : List UInt8) :
    rdU b = if hiN 10 b < 10 ∧ b.length ≤ hiN 10 b then (0, 0, 5)
      else if 9 ≤ hiN 10 b ∧ 1 < (b.getD 9 0).toNat then (0, 0, 2)
      else if 0 < hiN 10 b ∧ (b.getD (hiN 10 b) 0).toNat = 0 then (0, 0, 2)
      else (dv (b.take (hiN 10 b + 1)), hiN 10 b + 1, 0) := by
  have := rdUG_hi b 0 0 (by omega)
  rw [rdU, this]; simp
theorem hiN_drop {b : List UInt8} {i : Nat} (h : i < 10) (hb : i < b.length) (hc : 127 < (b[i]).toNat) : hiN (10 - i) (b.drop i) = hiN (10 - (i + 1)) (b.drop (i + 1)) + 1 := by
  obtain ⟨m, hm⟩ : ∃ m, 10 - i = m + 1 := ⟨9 - i, by omega⟩
  rw [List.drop_eq_getElem_cons hb, hm, hiN, if_pos hc, show 10 - (i + 1) = m by omega]
theorem hiN_stop {b : List UInt8} {i : Nat} (h : b.length ≤ i ∨ 10 ≤ i ∨ (b.getD i 0).toNat ≤ 127) : hiN (10 - i) (b.drop i) = 0 := by
  by_cases h1 : b.length ≤ i
  · rw [List.drop_eq_nil_of_le h1]; cases 10 - i <;> rfl
  · by_cases h2 : 10 ≤ i
    · rw [show 10 - i = 0 by omega]; rfl
    · obtain ⟨m, hm⟩ : ∃ m, 10 - i = m + 1 := ⟨9 - i, by omega⟩
      have h3 : b.getD i 0 = b[i]'(by omega) := by simp [List.getD_eq_getElem?_getD, List.getElem?_eq_getElem (show i < b.length by omega)]
      rw [h3] at h
      rw [List.drop_eq_getElem_cons (by omega), hm, hiN, if_neg (by omega)]
/-- One digit more, from behind. -/
theorem dv_step {b : List UInt8} {n i : Nat} (h : i ≤ n) (hb : n < b.length) : dv ((b.take (n + 1)).drop i) = dv ((b.take (n + 1)).drop (i + 1)) * 128 + (b[i]'(by omega)).toNat % 128 := by
  have : i < (b.take (n + 1)).length := by rw [List.length_take]; omega
  rw [List.drop_eq_getElem_cons this, dv, List.getElem_take]; omega
theorem dv_drop_lt {b : List UInt8} {n i : Nat} (hb : n < b.length) : dv ((b.take (n + 1)).drop i) < 128 ^ (n + 1 - i) := by
  have := dv_lt ((b.take (n + 1)).drop i)
  rw [List.length_drop, List.length_take, Nat.min_eq_left (by omega)] at this
  exact this
theorem dv_drop_mono {b : List UInt8} : ∀ (i : Nat), dv (b.drop i) ≤ dv b
  | 0 => by simp
  | i + 1 => by
    cases b with
    | nil => simp
    | cons c r =>
      have := dv_drop_mono (b := r) i
      rw [List.drop_succ_cons, dv]; omega
/-- A number off its digits is a word. -/
theorem dv_word {b : List UInt8} {n : Nat} (hn : n ≤ 9) (hb : n < b.length) (h9 : ¬ (9 ≤ n ∧ 1 < (b.getD 9 0).toNat)) : dv (b.take (n + 1)) < 18446744073709551616 := by
  by_cases h : n = 9
  · subst h
    have e : b.take 10 = b.take 9 ++ [b[9]'hb] := by rw [List.take_add_one, List.getElem?_eq_getElem hb]; rfl
    have h3 : b.getD 9 0 = b[9]'hb := by simp [List.getD_eq_getElem?_getD, List.getElem?_eq_getElem hb]
    rw [h3] at h9
    have key : ∀ (l : List UInt8) (c : UInt8), dv (l ++ [c]) = dv l + c.toNat % 128 * 128 ^ l.length := by
      intro l c
      induction l with
      | nil => simp [dv]
      | cons a r ih =>
        rw [List.cons_append, dv, dv, ih, List.length_cons, Nat.pow_succ, Nat.mul_add, ← Nat.mul_assoc, ← Nat.mul_assoc, Nat.mul_comm 128 (c.toNat % 128), Nat.mul_right_comm]; omega
    have hl := dv_lt (b.take 9)
    rw [List.length_take, Nat.min_eq_left (by omega)] at hl
    show dv (b.take 10) < _
    rw [e, key, List.length_take, Nat.min_eq_left (by omega)]
    have : (b[9]'hb).toNat % 128 * 128 ^ 9 ≤ 1 * 128 ^ 9 := Nat.mul_le_mul_right _ (by omega)
    omega
  · have h1 := dv_lt (b.take (n + 1))
    rw [List.length_take, Nat.min_eq_left (by omega)] at h1
    have h2 : 128 ^ (n + 1) ≤ 128 ^ 9 := Nat.pow_le_pow_right (by omega) (by omega)
    omega
end Go.RxTree
namespace Go.RxTree
open Go Go.Rx
/-- How pack's loop over the bytes of a number ends. -/
def rd80R (b : List UInt8) (r : Nat × Nat × Int) : Option (Fx × St) :=
  if r.2.2 = 5 then some (.exit 0, ⟨[(2, .undef), (3, .undef), (4, .undef)], []⟩)
  else if r.2.2 = 0 then some (.ret, ⟨[(2, .d (.int .u64 r.1)), (3, .d (.list (bL (b.drop r.2.1)))), (4, .d (.int .i64 0))], []⟩)
  else some (.ret, ⟨[(2, .d (.int .u64 0)), (3, .nilsl), (4, .d (.int .i64 r.2.2))], []⟩)
end Go.RxTree
namespace Go.RxTree
open Go Go.Rx
theorem rd80R_2 {b : List UInt8} {n k : Nat} {e : Int} (h5 : e ≠ 5) (h0 : e ≠ 0) : rd80R b (n, k, e) = some (.ret, ⟨[(2, .d (.int .u64 0)), (3, .nilsl), (4, .d (.int .i64 e))], []⟩) := by
  unfold rd80R; rw [if_neg h5, if_neg h0]
theorem rdUG_e : ∀ (b : List UInt8) (i acc : Nat), (rdUG i acc b).2.2 ≠ 0 → (rdUG i acc b).1 = 0 ∧ (rdUG i acc b).2.1 = 0
  | [], i, acc, _ => by simp [rdUG]
  | c :: r, i, acc, h => by
    rw [rdUG] at h ⊢
    split
    · simp
    · rename_i h1
      rw [if_neg h1] at h
      split
      · rename_i h2
        rw [if_pos h2] at h
        split
        · simp
        · rename_i h3; rw [if_neg h3] at h; exact absurd rfl h
      · rename_i h2
        rw [if_neg h2] at h
        exact rdUG_e r _ _ h
theorem rdU_e0 {b : List UInt8} {n k : Nat} {e : Int} (h : rdU b = (n, k, e)) (he : e ≠ 0) : n = 0 ∧ k = 0 := by
  have := rdUG_e b 0 0
  unfold rdU at h
  rw [h] at this
  exact this he
theorem rest_0 (b : List UInt8) (k : Nat) : rest b k 0 = b.drop k := rfl
theorem rest_e (b : List UInt8) (k : Nat) {e : Int} (h : e ≠ 0) : rest b k e = [] := by unfold rest; rw [if_neg h]
end Go.RxTree
namespace Go.RxTree
theorem hiN_get : ∀ (m : Nat) (b : List UInt8) (j : Nat), j < hiN m b → 127 < (b.getD j 0).toNat
  | 0, b, j, h => by rw [hiN] at h; omega
  | _ + 1, [], j, h => by rw [hiN] at h; omega
  | m + 1, c :: r, 0, h => by
    rw [hiN] at h
    split at h
    · rename_i h1; simpa using h1
    · omega
  | m + 1, c :: r, j + 1, h => by
    rw [hiN] at h
    split at h
    · have := hiN_get m r j (by omega); simpa using this
    · omega
end Go.RxTree
