/- A part of the proof of the law: what functions of the program come to, walked by Rx, or plain facts on it. -/
import Derived.Test.YtahnmikdpclbfaaRxJc
import Derived.Laws.BitsLemmas
import Derived.Laws.Bits64
import Derived.Test.YtahnmikdpclbfaaRSpecB
section
set_option linter.unusedVariables false
set_option linter.unusedSimpArgs false
namespace Go.RxTree
open Go Go.Rx
theorem wraps_u64w (n : Int) (h₀ : 0 ≤ n) (h₁ : n < 2 ^ 64) : IntKind.u64.wrap n = n := Go.Rx.wrap_u64 h₀ (by omega)
set_option maxRecDepth 100000 in
theorem or128 {x : Int} (h0 : 0 ≤ x) (h1 : x < 256) : bits .or .u8 x 128 = x % 128 + 128 := by
  obtain ⟨a, rfl⟩ := Int.eq_ofNat_of_zero_le h0
  have ha : a < 256 := by omega
  have h := (bits_nat .u8 8 (by decide) wraps_u8 a 128 ha (by decide)).2
  have key : ∀ a : Nat, a < 256 → a ||| 128 = a % 128 + 128 := by decide
  rw [key a ha] at h
  rw [show ((128 : Int)) = ((128 : Nat) : Int) from rfl, h]
  omega
theorem and127 {x : Int} (h0 : 0 ≤ x) (h1 : x < 18446744073709551616) : bits .and .u64 x 127 = x % 128 :=
  bits_mask .u64 64 (by decide) wraps_u64w 7 (by decide) x h0 h1
theorem and1 {x : Int} (h0 : 0 ≤ x) (h1 : x < 18446744073709551616) : bits .and .u64 x 1 = x % 2 :=
  bits_mask .u64 64 (by decide) wraps_u64w 1 (by decide) x h0 h1
theorem or_join {x y : Int} (i : Nat) (hx₀ : 0 ≤ x) (hx : x % 2 ^ i = 0) (hx₁ : x < 2 ^ 64) (hy₀ : 0 ≤ y) (hy : y < 2 ^ i) (hy₁ : y < 2 ^ 64) : bits .or .u64 y x = y + x := by
  have h := bits_join .u64 64 (by decide) wraps_u64w i x y hx₀ hx hx₁ hy₀ hy hy₁
  obtain ⟨a, rfl⟩ := Int.eq_ofNat_of_zero_le hx₀
  obtain ⟨b, rfl⟩ := Int.eq_ofNat_of_zero_le hy₀
  have h1 := (bits_nat .u64 64 (by decide) wraps_u64w a b (by omega) (by omega)).2
  have h2 := (bits_nat .u64 64 (by decide) wraps_u64w b a (by omega) (by omega)).2
  rw [Nat.or_comm] at h2
  rw [h2, ← h1, h]; omega
/-- Seven bits a byte, the lowest first. -/
def uintB (n : Nat) : List UInt8 := if h : n < 128 then [UInt8.ofNat n] else UInt8.ofNat (n % 128 + 128) :: uintB (n / 128)
termination_by n
decreasing_by omega
theorem uintB_0 {n : Nat} (h : n < 128) : uintB n = [UInt8.ofNat n] := by rw [uintB, dif_pos h]
theorem uintB_1 {n : Nat} (h : ¬n < 128) : uintB n = UInt8.ofNat (n % 128 + 128) :: uintB (n / 128) := by rw [uintB, dif_neg h]
theorem uintB_len : ∀ (m n : Nat), n < 128 ^ (m + 1) → (uintB n).length ≤ m + 1
  | 0, n, h => by rw [uintB_0 (by omega)]; simp
  | m + 1, n, h => by
    by_cases h1 : n < 128
    · rw [uintB_0 h1]; simp
    · rw [uintB_1 h1, List.length_cons]
      have := uintB_len m (n / 128) (by rw [Nat.pow_succ] at h; omega)
      omega
theorem uintB_len10 {n : Nat} (h : n < 18446744073709551616) : (uintB n).length ≤ 10 := uintB_len 9 n (by omega)
theorem u8_cell {n : Nat} (h : n < 256) : ((UInt8.ofNat n).toNat : Int) = (n : Int) := by
  simp; omega
/-- Numbers that may be below 0, as numbers. -/
def zig (n : Int) : Nat := if 0 ≤ n then (2 * n).toNat else (-2 * n - 1).toNat
def zag (n : Nat) : Int := if n % 2 = 0 then (n / 2 : Nat) else -((n / 2 : Nat) : Int) - 1
theorem zag_zig (n : Int) : zag (zig n) = n := by
  unfold zig zag
  split <;> (split <;> omega)
theorem zig_zag (n : Nat) : zig (zag n) = n := by
  unfold zig zag
  split <;> (split <;> omega)
end Go.RxTree
namespace Go.RxTree
open Go Go.Rx
def uintP (n : Nat) : List UInt8 := if h : n < 128 then [] else UInt8.ofNat (n % 128 + 128) :: uintP (n / 128)
termination_by n
decreasing_by omega
def uintQ (n : Nat) : Nat := if h : n < 128 then n else uintQ (n / 128)
termination_by n
decreasing_by omega
theorem uintP_0 {n : Nat} (h : n < 128) : uintP n = [] := by rw [uintP, dif_pos h]
theorem uintP_1 {n : Nat} (h : ¬n < 128) : uintP n = UInt8.ofNat (n % 128 + 128) :: uintP (n / 128) := by rw [uintP, dif_neg h]
theorem uintQ_0 {n : Nat} (h : n < 128) : uintQ n = n := by rw [uintQ, dif_pos h]
theorem uintQ_1 {n : Nat} (h : ¬n < 128) : uintQ n = uintQ (n / 128) := by rw [uintQ, dif_neg h]
theorem uintPQ : ∀ (m n : Nat), n < 128 ^ (m + 1) → uintB n = uintP n ++ [UInt8.ofNat (uintQ n)] ∧ uintQ n < 128 ∧ (uintP n).length ≤ m
  | 0, n, h => by rw [uintB_0 (by omega), uintP_0 (by omega), uintQ_0 (by omega)]; exact ⟨rfl, by omega, by simp⟩
  | m + 1, n, h => by
    by_cases h1 : n < 128
    · rw [uintB_0 h1, uintP_0 h1, uintQ_0 h1]; exact ⟨rfl, h1, by simp⟩
    · have := uintPQ m (n / 128) (by rw [Nat.pow_succ] at h; omega)
      rw [uintB_1 h1, uintP_1 h1, uintQ_1 h1]
      exact ⟨by rw [this.1]; rfl, this.2.1, by simp only [List.length_cons]; omega⟩
theorem shr7 {z : Int} {n : Nat} (h : z = (n : Int)) : z.fdiv (2 ^ (min (7 : Int).toNat IntKind.u64.bits)) = ((n / 128 : Nat) : Int) := by
  subst h
  have e : (2 : Int) ^ (min (7 : Int).toNat IntKind.u64.bits) = 128 := by decide
  rw [e, Int.fdiv_eq_ediv_of_nonneg _ (by omega)]; omega
theorem quo128 {z : Int} {n : Nat} (h : z = (n : Int)) (hn : n < 18446744073709551616) : IntKind.u64.wrap (z.tdiv 128) = ((n / 128 : Nat) : Int) := by
  subst h
  rw [Int.tdiv_eq_ediv_of_nonneg (by omega), Go.Rx.wrap_u64 (by omega) (by omega)]; omega
theorem lowB {z : Int} {n : Nat} (h : z = (n : Int)) : IntKind.u8.wrap z = ((n % 256 : Nat) : Int) := by
  subst h; rw [Go.IntKind.wrap_u8]; omega
theorem contB {z : Int} {n : Nat} (h : z = (n : Int)) : bits .or .u8 (IntKind.u8.wrap z) 128 = ((UInt8.ofNat (n % 128 + 128)).toNat : Int) := by
  rw [lowB h, or128 (by omega) (by omega), u8_cell (by omega)]; omega
theorem contB2 {z : Int} {n : Nat} (h : z = (n : Int)) : IntKind.u8.wrap (IntKind.u64.wrap (128 + z.tmod 128)) = ((UInt8.ofNat (n % 128 + 128)).toNat : Int) := by
  subst h
  rw [Int.tmod_eq_emod_of_nonneg (by omega), Go.Rx.wrap_u64 (by omega) (by omega), Go.IntKind.wrap_u8, u8_cell (by omega)]; omega
theorem lastB {z : Int} {n : Nat} (h : z = (n : Int)) (hn : n < 128) : IntKind.u8.wrap z = ((UInt8.ofNat n).toNat : Int) := by
  rw [lowB h, u8_cell (by omega)]; omega
end Go.RxTree
namespace Go.RxTree
open Go Go.Rx
theorem xor_ones {a : Nat} (h : a < 18446744073709551616) : a ^^^ 18446744073709551615 = 18446744073709551615 - a := by
  have e := BitVec.toNat_not (x := BitVec.ofNat 64 a)
  have e2 : (BitVec.ofNat 64 a ^^^ BitVec.allOnes 64).toNat = a ^^^ 18446744073709551615 := by
    rw [BitVec.toNat_xor, BitVec.toNat_ofNat, BitVec.toNat_allOnes, Nat.mod_eq_of_lt (by omega)]
  have e3 : BitVec.ofNat 64 a ^^^ BitVec.allOnes 64 = ~~~ (BitVec.ofNat 64 a) := by
    rw [BitVec.xor_allOnes]
  rw [e3, e, BitVec.toNat_ofNat, Nat.mod_eq_of_lt (by omega)] at e2
  omega
theorem zig_x {n : Int} (h0 : -9223372036854775808 ≤ n) (h1 : n ≤ 9223372036854775807) :
    bits .xor .u64 (IntKind.u64.wrap (IntKind.u64.wrap n * 2 ^ (min (1 : Int).toNat IntKind.u64.bits))) (IntKind.u64.wrap (n.fdiv (2 ^ (min (63 : Int).toNat IntKind.i64.bits)))) = ((zig n : Nat) : Int) := by
  have e1 : (2 : Int) ^ (min (1 : Int).toNat IntKind.u64.bits) = 2 := by decide
  have e2 : (2 : Int) ^ (min (63 : Int).toNat IntKind.i64.bits) = 9223372036854775808 := by decide
  rw [e1, e2, Go.IntKind.wrap_u64, Go.IntKind.wrap_u64, Go.IntKind.wrap_u64, Int.fdiv_eq_ediv_of_nonneg _ (by omega)]
  unfold zig
  by_cases h : 0 ≤ n
  · rw [if_pos h]
    obtain ⟨a, rfl⟩ := Int.eq_ofNat_of_zero_le h
    have q : ((a : Int) / 9223372036854775808) % 18446744073709551616 = ((0 : Nat) : Int) := by omega
    have p : ((a : Int) % 18446744073709551616 * 2) % 18446744073709551616 = ((2 * a : Nat) : Int) := by omega
    rw [q, p, Go.bits_xor_u64_nat _ _ (by omega) (by omega), Nat.xor_zero]
    omega
  · rw [if_neg h]
    have q : (n / 9223372036854775808) % 18446744073709551616 = ((18446744073709551615 : Nat) : Int) := by omega
    obtain ⟨a, ha⟩ : ∃ a : Nat, (a : Int) = 18446744073709551616 + 2 * n := ⟨(18446744073709551616 + 2 * n).toNat, by omega⟩
    have p : (n % 18446744073709551616 * 2) % 18446744073709551616 = ((a : Nat) : Int) := by omega
    rw [q, p, Go.bits_xor_u64_nat _ _ (by omega) (by omega), xor_ones (by omega)]
    omega
theorem zig_lt {n : Int} (h0 : -9223372036854775808 ≤ n) (h1 : n ≤ 9223372036854775807) : zig n < 18446744073709551616 := by
  unfold zig; split <;> omega
theorem zig_p {n : Int} (h0 : 0 ≤ n) (h1 : n ≤ 9223372036854775807) : IntKind.u64.wrap (IntKind.u64.wrap n * 2) = ((zig n : Nat) : Int) := by
  rw [Go.IntKind.wrap_u64, Go.IntKind.wrap_u64]; unfold zig; rw [if_pos h0]; omega
theorem zig_n {n : Int} (h0 : -9223372036854775808 ≤ n) (h1 : ¬ 0 ≤ n) : IntKind.u64.wrap (IntKind.u64.wrap (IntKind.u64.wrap (IntKind.i64.wrap (0 - IntKind.i64.wrap (n + 1))) * 2) + 1) = ((zig n : Nat) : Int) := by
  have e1 : IntKind.i64.wrap (n + 1) = n + 1 := Go.Rx.wrap_i64 (by omega) (by omega)
  have e2 : IntKind.i64.wrap (0 - (n + 1)) = 0 - (n + 1) := Go.Rx.wrap_i64 (by omega) (by omega)
  rw [e1, e2, Go.IntKind.wrap_u64, Go.IntKind.wrap_u64, Go.IntKind.wrap_u64]; unfold zig; rw [if_neg h1]; omega
/-- Back: the number off its word. -/
theorem xor_m1 {x : Int} (h0 : 0 ≤ x) (h1 : x ≤ 9223372036854775807) : bits .xor .i64 x (-1) = -x - 1 := by
  obtain ⟨a, rfl⟩ := Int.eq_ofNat_of_zero_le h0
  show IntKind.i64.wrap ((BitVec.ofInt 64 (a : Int) ^^^ BitVec.ofInt 64 (-1)).toNat : Int) = _
  have e : BitVec.ofInt 64 (-1) = BitVec.allOnes 64 := by decide
  rw [e, BitVec.xor_allOnes, BitVec.toNat_not, BitVec.ofInt_natCast, BitVec.toNat_ofNat, Nat.mod_eq_of_lt (by omega), Go.IntKind.wrap_i64]
  omega
theorem xor_0 {x : Int} (h0 : 0 ≤ x) (h1 : x ≤ 9223372036854775807) : bits .xor .i64 x 0 = x := by
  obtain ⟨a, rfl⟩ := Int.eq_ofNat_of_zero_le h0
  show IntKind.i64.wrap ((BitVec.ofInt 64 (a : Int) ^^^ BitVec.ofInt 64 0).toNat : Int) = _
  have e : BitVec.ofInt 64 0 = 0#64 := by decide
  rw [e, BitVec.xor_zero, BitVec.ofInt_natCast, BitVec.toNat_ofNat, Nat.mod_eq_of_lt (by omega), Go.IntKind.wrap_i64]
  omega
end Go.RxTree
end
section
set_option linter.unusedVariables false
set_option linter.unusedSimpArgs false
namespace Go.RxTree
open Go Go.Rx
/-- Of the bytes from place i on, with what was read: the number, how many bytes it took in all, what is wrong. -/
def rdUG : Nat → Nat → List UInt8 → Nat × Nat × Int
  | _, _, [] => (0, 0, 5)
  | i, acc, c :: r =>
    if i = 9 ∧ 1 < c.toNat then (0, 0, 2)
    else if c.toNat < 128 then (if c.toNat = 0 ∧ 0 < i then (0, 0, 2) else (acc + c.toNat % 128 * 128 ^ i, i + 1, 0))
    else rdUG (i + 1) (acc + c.toNat % 128 * 128 ^ i) r
def rdU (b : List UInt8) : Nat × Nat × Int := rdUG 0 0 b
def rest (b : List UInt8) (k : Nat) (e : Int) : List UInt8 := if e = 0 then b.drop k else []
def rdI (b : List UInt8) : Int × Nat × Int := (zag (rdU b).1, (rdU b).2.1, (rdU b).2.2)
def rdB (b : List UInt8) : List UInt8 × Nat × Int :=
  if (rdU b).2.2 ≠ 0 then ([], 0, (rdU b).2.2)
  else if b.length - (rdU b).2.1 < (rdU b).1 then ([], 0, 5)
  else ((b.drop (rdU b).2.1).take (rdU b).1, (rdU b).2.1 + (rdU b).1, 0)
abbrev T0 : T := .mk 0 0 [] []
def kidsK (k : Int) : Int := if k = 3 ∨ k = 4 then 0 else if k = 5 ∨ k = 6 then 1 else if 7 ≤ k ∧ k ≤ 14 then 2 else -1
/-- So many depths are left. -/
def rdT : Nat → List UInt8 → T × Nat × Int
  | 0, _ => (T0, 0, 6)
  | m + 1, [] => (T0, 0, 5)
  | m + 1, c :: r =>
    if (c.toNat : Int) = 1 then (.mk 1 (rdI r).1 [] [], 1 + (rdI r).2.1, (rdI r).2.2)
    else if (c.toNat : Int) = 2 then (.mk 2 0 (rdB r).1 [], 1 + (rdB r).2.1, (rdB r).2.2)
    else if kidsK c.toNat = 0 then (.mk c.toNat 0 [] [], 1, 0)
    else if kidsK c.toNat = 1 then
      (if (rdT m r).2.2 ≠ 0 then (T0, 0, (rdT m r).2.2) else (.mk c.toNat 0 [] [(rdT m r).1], 1 + (rdT m r).2.1, 0))
    else if kidsK c.toNat = 2 then
      (if (rdT m r).2.2 ≠ 0 then (T0, 0, (rdT m r).2.2)
       else if (rdT m (r.drop (rdT m r).2.1)).2.2 ≠ 0 then (T0, 0, (rdT m (r.drop (rdT m r).2.1)).2.2)
       else (.mk c.toNat 0 [] [(rdT m r).1, (rdT m (r.drop (rdT m r).2.1)).1], 1 + (rdT m r).2.1 + (rdT m (r.drop (rdT m r).2.1)).2.1, 0))
    else (T0, 0, 3)
def rdX (b : List UInt8) : T × Nat × Int :=
  let e := if (rdT 16 b).2.2 = 0 then checkT (rdT 16 b).1 1 else (rdT 16 b).2.2
  if e ≠ 0 then (T0, 0, e) else ((rdT 16 b).1, (rdT 16 b).2.1, 0)
theorem rdUG_b : ∀ (b : List UInt8) (i acc : Nat), i ≤ 9 → acc < 128 ^ i → ((rdUG i acc b).2.2 = 0 → (rdUG i acc b).2.1 ≤ i + b.length ∧ i < (rdUG i acc b).2.1 ∧ (rdUG i acc b).2.1 ≤ 10) ∧ (rdUG i acc b).1 < 18446744073709551616 ∧ ((rdUG i acc b).2.2 ≠ 0 → (rdUG i acc b).1 = 0 ∧ (rdUG i acc b).2.1 = 0)
  | [], i, acc, h, ha => by simp [rdUG]
  | c :: r, i, acc, h, ha => by
    have hc : c.toNat < 256 := c.toNat_lt
    have hp : 128 ^ i ≤ 128 ^ 9 := Nat.pow_le_pow_right (by omega) h
    rw [rdUG]
    split
    · simp
    · rename_i h9
      split
      · split
        · simp
        · rename_i hlt _
          refine ⟨fun _ => by simp only [List.length_cons]; omega, ?_, fun hh => absurd rfl hh⟩
          show acc + c.toNat % 128 * 128 ^ i < _
          by_cases h2 : i = 9
          · subst h2; omega
          · have hp2 : 128 ^ i ≤ 128 ^ 8 := Nat.pow_le_pow_right (by omega) (by omega)
            have : c.toNat % 128 * 128 ^ i ≤ 127 * 128 ^ 8 := Nat.mul_le_mul (by omega) hp2
            omega
      · rename_i hlt
        have h2 : i ≠ 9 := fun e => h9 ⟨e, by omega⟩
        have hm : c.toNat % 128 * 128 ^ i ≤ 127 * 128 ^ i := Nat.mul_le_mul_right _ (by omega)
        obtain ⟨a1, a2, a3⟩ := rdUG_b r (i + 1) (acc + c.toNat % 128 * 128 ^ i) (by omega) (by rw [Nat.pow_succ]; omega)
        exact ⟨fun he => by obtain ⟨b1, b2, b3⟩ := a1 he; simp only [List.length_cons]; omega, a2, a3⟩
theorem rdU_b (b : List UInt8) : ((rdU b).2.2 = 0 → (rdU b).2.1 ≤ b.length ∧ 0 < (rdU b).2.1 ∧ (rdU b).2.1 ≤ 10) ∧ (rdU b).1 < 18446744073709551616 ∧ ((rdU b).2.2 ≠ 0 → (rdU b).1 = 0 ∧ (rdU b).2.1 = 0) := by
  have := rdUG_b b 0 0 (by omega) (by omega)
  unfold rdU
  simpa using this
end Go.RxTree
end
section
set_option linter.unusedVariables false
set_option linter.unusedSimpArgs false
namespace Go.RxTree
open Go Go.Rx
/-- A text behind its length. -/
def bytesB (s : List UInt8) : List UInt8 := uintB s.length ++ s
mutual
def exprB : T → List UInt8
  | .mk k n s l => UInt8.ofNat k.toNat :: (if k = 1 then uintB (zig n) else if k = 2 then bytesB s else exprL l)
def exprL : List T → List UInt8
  | [] => []
  | t :: r => exprB t ++ exprL r
end
theorem exprL_app : ∀ a b : List T, exprL (a ++ b) = exprL a ++ exprL b
  | [], b => rfl
  | t :: r, b => by
    show exprB t ++ exprL (r ++ b) = (exprB t ++ exprL r) ++ exprL b
    rw [exprL_app r b, List.append_assoc]
theorem exprL_take {l : List T} {i : Nat} {x : T} (h : l[i]? = some x) : exprL (l.take (i + 1)) = exprL (l.take i) ++ exprB x := by
  rw [List.take_add_one, h, exprL_app]
  simp [exprL]
theorem exprL_le {l : List T} {i : Nat} {x : T} (h : l[i]? = some x) : (exprL (l.take i)).length + (exprB x).length ≤ (exprL l).length := by
  have e := exprL_app (l.take (i + 1)) (l.drop (i + 1))
  rw [List.take_append_drop] at e
  rw [e, List.length_append, exprL_take h, List.length_append]; omega
theorem exprL_mem : ∀ {l : List T} {x : T}, x ∈ l → (exprB x).length ≤ (exprL l).length
  | a :: r, x, h => by
    show _ ≤ (exprB a ++ exprL r).length
    rw [List.length_append]
    rcases List.mem_cons.1 h with rfl | h
    · omega
    · have := exprL_mem h; omega
theorem name_len {s : List UInt8} (h : textOk 2 s = true) : s.length ≤ 32 := by
  rw [textOk_v] at h
  simp only [Bool.and_eq_true, nameOk, decide_eq_true_eq] at h
  omega
theorem expr_len : ∀ (m : Nat) (t : T), checkT t (17 - (m : Int)) = 0 → t.Ok → m ≤ 16 → (exprB t).length + 1 ≤ 64 * 2 ^ m := by
  intro m
  induction m with
  | zero =>
    intro t h _ _
    obtain ⟨k, n, s, l⟩ := t
    rw [checkT_big (by omega)] at h; omega
  | succ m ih =>
    intro t h ho hm
    obtain ⟨k, n, s, l⟩ := t
    obtain ⟨c1, c2, c3, c4⟩ := checkT_inv h
    obtain ⟨o1, o2, o3, o4, o5⟩ := ho
    have hd : (17 - ((m + 1 : Nat) : Int) + 1) = 17 - (m : Int) := by omega
    rw [hd] at c4
    have p1 := Nat.one_le_two_pow (n := m)
    have p2 : 2 ^ (m + 1) = 2 ^ m + 2 ^ m := by rw [Nat.pow_succ]; omega
    have hk := fun x hx => ih x (checkL_mem c4 hx) (OkL_mem o5 hx) (by omega)
    obtain ⟨d1, d2, d3, d4, d5, _⟩ := c2
    rw [exprB, List.length_cons]
    have hn := wf_i64.1 o2
    have hu := uintB_len10 (zig_lt hn.1 hn.2)
    by_cases hk1 : k = 1
    · rw [if_pos hk1]; omega
    · rw [if_neg hk1]
      by_cases hk2 : k = 2
      · subst hk2
        have hs := name_len c3
        have hb : (uintB s.length).length ≤ 10 := uintB_len10 (by omega)
        rw [if_pos rfl, bytesB, List.length_append]; omega
      · rw [if_neg hk2]
        match l, d3, d4, d5, hk with
        | [], _, _, _, _ => simp [exprL]; omega
        | [x], _, _, _, hk => have := hk x (by simp); simp [exprL]; omega
        | [x, y], _, _, _, hk => have h1 := hk x (by simp); have h2 := hk y (by simp); simp [exprL]; omega
        | x :: y :: z :: r, d3, d4, d5, _ =>
          exfalso
          simp only [List.length_cons] at d3 d4 d5
          by_cases a : k ≤ 4
          · have := d3 a; omega
          · by_cases b : k = 5 ∨ k = 6
            · have := d4 b; omega
            · have := d5 (by omega); omega
theorem expr_most {t : T} (h : checkT t 1 = 0) (ho : t.Ok) : (exprB t).length ≤ 4194304 := by
  have := expr_len 16 t (by simpa using h) ho (by omega)
  omega
end Go.RxTree
end
section
set_option linter.unusedVariables false
set_option linter.unusedSimpArgs false
namespace Go.RxTree
open Go Go.Rx
/-- How many bytes ahead go on, of so many. -/
def hiN : Nat → List UInt8 → Nat
  | 0, _ => 0
  | _ + 1, [] => 0
  | m + 1, c :: r => if 127 < c.toNat then hiN m r + 1 else 0
theorem hiN_le : ∀ (m : Nat) (b : List UInt8), hiN m b ≤ m ∧ hiN m b ≤ b.length
  | 0, _ => by simp [hiN]
  | _ + 1, [] => by simp [hiN]
  | m + 1, c :: r => by
    have := hiN_le m r
    rw [hiN]; split
    · simp only [List.length_cons]; omega
    · omega
/-- Digits, the lowest first. -/
def dv : List UInt8 → Nat
  | [] => 0
  | c :: r => c.toNat % 128 + 128 * dv r
theorem dv_lt : ∀ (b : List UInt8), dv b < 128 ^ b.length
  | [] => by simp [dv]
  | c :: r => by
    have := dv_lt r
    rw [dv, List.length_cons, Nat.pow_succ]; omega
theorem rdUG_hi : ∀ (b : List UInt8) (i acc : Nat), i ≤ 9 →
    rdUG i acc b = if hiN (10 - i) b < 10 - i ∧ b.length ≤ hiN (10 - i) b then (0, 0, 5)
      else if 9 ≤ i + hiN (10 - i) b ∧ 1 < (b.getD (9 - i) 0).toNat then (0, 0, 2)
      else if 0 < i + hiN (10 - i) b ∧ (b.getD (hiN (10 - i) b) 0).toNat = 0 then (0, 0, 2)
      else (acc + dv (b.take (hiN (10 - i) b + 1)) * 128 ^ i, i + hiN (10 - i) b + 1, 0)
  | [], i, acc, h => by
    obtain ⟨m, hm⟩ : ∃ m, 10 - i = m + 1 := ⟨9 - i, by omega⟩
    rw [hm, rdUG, hiN, if_pos (by simp)]
  | c :: r, i, acc, h => by
    obtain ⟨m, hm⟩ : ∃ m, 10 - i = m + 1 := ⟨9 - i, by omega⟩
    have hm' : 9 - i = m := by omega
    rw [hm, hm', rdUG, hiN]
    by_cases h1 : i = 9 ∧ 1 < c.toNat
    · obtain ⟨rfl, h1⟩ := h1
      obtain rfl : m = 0 := by omega
      rw [if_pos ⟨rfl, h1⟩]
      by_cases h2 : 127 < c.toNat
      · rw [if_pos h2, hiN, if_neg (by simp), if_pos ⟨by omega, by simpa using h1⟩]
      · rw [if_neg h2, if_neg (by simp), if_pos ⟨by omega, by simpa using h1⟩]
    · rw [if_neg h1]
      by_cases h2 : c.toNat < 128
      · rw [if_pos h2, if_neg (show ¬ 127 < c.toNat by omega)]
        have n1 : ¬ (0 < m + 1 ∧ (c :: r).length ≤ 0) := by simp
        have n2 : ¬ (9 ≤ i + 0 ∧ 1 < ((c :: r).getD m 0).toNat) := by
          rintro ⟨a1, a2⟩
          obtain rfl : i = 9 := by omega
          obtain rfl : m = 0 := by omega
          exact h1 ⟨rfl, by simpa using a2⟩
        rw [if_neg n1, if_neg n2]
        by_cases h3 : c.toNat = 0 ∧ 0 < i
        · rw [if_pos h3, if_pos ⟨by omega, by simpa using h3.1⟩]
        · rw [if_neg h3, if_neg (by rintro ⟨a1, a2⟩; exact h3 ⟨by simpa using a2, by omega⟩)]
          simp [dv]
      · rw [if_neg h2, if_pos (show 127 < c.toNat by omega)]
        have hi9 : i ≠ 9 := fun e => h1 ⟨e, by omega⟩
        have hm1 : 10 - (i + 1) = m := by omega
        obtain ⟨q, rfl⟩ : ∃ q, m = q + 1 := ⟨m - 1, by omega⟩
        have hq : 9 - (i + 1) = q := by omega
        rw [rdUG_hi r (i + 1) _ (by omega), hm1, hq]
        have e1 : (c :: r).getD (q + 1) 0 = r.getD q 0 := by simp
        have e2 : (c :: r).getD (hiN (q + 1) r + 1) 0 = r.getD (hiN (q + 1) r) 0 := by simp
        rw [e1, e2]
        have e3 : (hiN (q + 1) r < q + 1 ∧ r.length ≤ hiN (q + 1) r) ↔ (hiN (q + 1) r + 1 < q + 1 + 1 ∧ (c :: r).length ≤ hiN (q + 1) r + 1) := by simp
        have e4 : (9 ≤ i + 1 + hiN (q + 1) r ∧ 1 < (r.getD q 0).toNat) ↔ (9 ≤ i + (hiN (q + 1) r + 1) ∧ 1 < (r.getD q 0).toNat) := by
          rw [show i + 1 + hiN (q + 1) r = i + (hiN (q + 1) r + 1) by omega]
        have e5 : (0 < i + 1 + hiN (q + 1) r ∧ (r.getD (hiN (q + 1) r) 0).toNat = 0) ↔ (0 < i + (hiN (q + 1) r + 1) ∧ (r.getD (hiN (q + 1) r) 0).toNat = 0) := by
          rw [show i + 1 + hiN (q + 1) r = i + (hiN (q + 1) r + 1) by omega]
        simp only [e3, e4, e5]
        split
        · rfl
        · split
          · rfl
          · split
            · rfl
            · rw [List.take_succ_cons, dv, Nat.pow_succ]
              refine Prod.ext ?_ (Prod.ext (by show i + 1 + hiN (q + 1) r + 1 = i + (hiN (q + 1) r + 1) + 1; omega) rfl)
              show acc + c.toNat % 128 * 128 ^ i + dv (r.take (hiN (q + 1) r + 1)) * (128 ^ i * 128) = acc + (c.toNat % 128 + 128 * dv (r.take (hiN (q + 1) r + 1))) * 128 ^ i
              rw [Nat.add_mul, Nat.mul_comm (128 ^ i) 128, ← Nat.mul_assoc, Nat.mul_comm (dv _) 128]; omega
/-- The four ends of reading a number. -/
theorem rdU_hi (b : List UInt8) :
    rdU b = if hiN 10 b < 10 ∧ b.length ≤ hiN 10 b then (0, 0, 5)
      else if 9 ≤ hiN 10 b ∧ 1 < (b.getD 9 0).toNat then (0, 0, 2)
      else if 0 < hiN 10 b ∧ (b.getD (hiN 10 b) 0).toNat = 0 then (0, 0, 2)
      else (dv (b.take (hiN 10 b + 1)), hiN 10 b + 1, 0) := by
  have := rdUG_hi b 0 0 (by omega)
  rw [rdU, this]; simp
theorem hiN_drop {b : List UInt8} {i : Nat} (h : i < 10) (hb : i < b.length) (hc : 127 < (b[i]).toNat) : hiN (10 - i) (b.drop i) = hiN (10 - (i + 1)) (b.drop (i + 1)) + 1 := by
  obtain ⟨m, hm⟩ : ∃ m, 10 - i = m + 1 := ⟨9 - i, by omega⟩
  rw [List.drop_eq_getElem_cons hb, hm, hiN, if_pos hc, show 10 - (i + 1) = m by omega]
theorem hiN_stop {b : List UInt8} {i : Nat} (h : b.length ≤ i ∨ 10 ≤ i ∨ (b.getD i 0).toNat ≤ 127) : hiN (10 - i) (b.drop i) = 0 := by
  by_cases h1 : b.length ≤ i
  · rw [List.drop_eq_nil_of_le h1]; cases 10 - i <;> rfl
  · by_cases h2 : 10 ≤ i
    · rw [show 10 - i = 0 by omega]; rfl
    · obtain ⟨m, hm⟩ : ∃ m, 10 - i = m + 1 := ⟨9 - i, by omega⟩
      have h3 : b.getD i 0 = b[i]'(by omega) := by simp [List.getD_eq_getElem?_getD, List.getElem?_eq_getElem (show i < b.length by omega)]
      rw [h3] at h
      rw [List.drop_eq_getElem_cons (by omega), hm, hiN, if_neg (by omega)]
/-- One digit more, from behind. -/
theorem dv_step {b : List UInt8} {n i : Nat} (h : i ≤ n) (hb : n < b.length) : dv ((b.take (n + 1)).drop i) = dv ((b.take (n + 1)).drop (i + 1)) * 128 + (b[i]'(by omega)).toNat % 128 := by
  have : i < (b.take (n + 1)).length := by rw [List.length_take]; omega
  rw [List.drop_eq_getElem_cons this, dv, List.getElem_take]; omega
theorem dv_drop_lt {b : List UInt8} {n i : Nat} (hb : n < b.length) : dv ((b.take (n + 1)).drop i) < 128 ^ (n + 1 - i) := by
  have := dv_lt ((b.take (n + 1)).drop i)
  rw [List.length_drop, List.length_take, Nat.min_eq_left (by omega)] at this
  exact this
theorem dv_drop_mono {b : List UInt8} : ∀ (i : Nat), dv (b.drop i) ≤ dv b
  | 0 => by simp
  | i + 1 => by
    cases b with
    | nil => simp
    | cons c r =>
      have := dv_drop_mono (b := r) i
      rw [List.drop_succ_cons, dv]; omega
/-- A number off its digits is a word. -/
theorem dv_word {b : List UInt8} {n : Nat} (hn : n ≤ 9) (hb : n < b.length) (h9 : ¬ (9 ≤ n ∧ 1 < (b.getD 9 0).toNat)) : dv (b.take (n + 1)) < 18446744073709551616 := by
  by_cases h : n = 9
  · subst h
    have e : b.take 10 = b.take 9 ++ [b[9]'hb] := by rw [List.take_add_one, List.getElem?_eq_getElem hb]; rfl
    have h3 : b.getD 9 0 = b[9]'hb := by simp [List.getD_eq_getElem?_getD, List.getElem?_eq_getElem hb]
    rw [h3] at h9
    have key : ∀ (l : List UInt8) (c : UInt8), dv (l ++ [c]) = dv l + c.toNat % 128 * 128 ^ l.length := by
      intro l c
      induction l with
      | nil => simp [dv]
      | cons a r ih =>
        rw [List.cons_append, dv, dv, ih, List.length_cons, Nat.pow_succ, Nat.mul_add, ← Nat.mul_assoc, ← Nat.mul_assoc, Nat.mul_comm 128 (c.toNat % 128), Nat.mul_right_comm]; omega
    have hl := dv_lt (b.take 9)
    rw [List.length_take, Nat.min_eq_left (by omega)] at hl
    show dv (b.take 10) < _
    rw [e, key, List.length_take, Nat.min_eq_left (by omega)]
    have : (b[9]'hb).toNat % 128 * 128 ^ 9 ≤ 1 * 128 ^ 9 := Nat.mul_le_mul_right _ (by omega)
    omega
  · have h1 := dv_lt (b.take (n + 1))
    rw [List.length_take, Nat.min_eq_left (by omega)] at h1
    have h2 : 128 ^ (n + 1) ≤ 128 ^ 9 := Nat.pow_le_pow_right (by omega) (by omega)
    omega
end Go.RxTree
namespace Go.RxTree
open Go Go.Rx
/-- How pack's loop over the bytes of a number ends. -/
def rd80R (b : List UInt8) (r : Nat × Nat × Int) : Option (Fx × St) :=
  if r.2.2 = 5 then some (.exit 0, ⟨[(2, .undef), (3, .undef), (4, .undef)], []⟩)
  else if r.2.2 = 0 then some (.ret, ⟨[(2, .d (.int .u64 r.1)), (3, .d (.list (bL (b.drop r.2.1)))), (4, .d (.int .i64 0))], []⟩)
  else some (.ret, ⟨[(2, .d (.int .u64 0)), (3, .nilsl), (4, .d (.int .i64 r.2.2))], []⟩)
end Go.RxTree
namespace Go.RxTree
open Go Go.Rx
theorem rd80R_2 {b : List UInt8} {n k : Nat} {e : Int} (h5 : e ≠ 5) (h0 : e ≠ 0) : rd80R b (n, k, e) = some (.ret, ⟨[(2, .d (.int .u64 0)), (3, .nilsl), (4, .d (.int .i64 e))], []⟩) := by
  unfold rd80R; rw [if_neg h5, if_neg h0]
theorem rdUG_e : ∀ (b : List UInt8) (i acc : Nat), (rdUG i acc b).2.2 ≠ 0 → (rdUG i acc b).1 = 0 ∧ (rdUG i acc b).2.1 = 0
  | [], i, acc, _ => by simp [rdUG]
  | c :: r, i, acc, h => by
    rw [rdUG] at h ⊢
    split
    · simp
    · rename_i h1
      rw [if_neg h1] at h
      split
      · rename_i h2
        rw [if_pos h2] at h
        split
        · simp
        · rename_i h3; rw [if_neg h3] at h; exact absurd rfl h
      · rename_i h2
        rw [if_neg h2] at h
        exact rdUG_e r _ _ h
theorem rdU_e0 {b : List UInt8} {n k : Nat} {e : Int} (h : rdU b = (n, k, e)) (he : e ≠ 0) : n = 0 ∧ k = 0 := by
  have := rdUG_e b 0 0
  unfold rdU at h
  rw [h] at this
  exact this he
theorem rest_0 (b : List UInt8) (k : Nat) : rest b k 0 = b.drop k := rfl
theorem rest_e (b : List UInt8) (k : Nat) {e : Int} (h : e ≠ 0) : rest b k e = [] := by unfold rest; rw [if_neg h]
end Go.RxTree
namespace Go.RxTree
theorem hiN_get : ∀ (m : Nat) (b : List UInt8) (j : Nat), j < hiN m b → 127 < (b.getD j 0).toNat
  | 0, b, j, h => by rw [hiN] at h; omega
  | _ + 1, [], j, h => by rw [hiN] at h; omega
  | m + 1, c :: r, 0, h => by
    rw [hiN] at h
    split at h
    · rename_i h1; simpa using h1
    · omega
  | m + 1, c :: r, j + 1, h => by
    rw [hiN] at h
    split at h
    · have := hiN_get m r j (by omega); simpa using this
    · omega
end Go.RxTree
end
section
set_option linter.unusedVariables false
set_option linter.unusedSimpArgs false
namespace Go.RxTree
open Go Go.Rx
theorem rdB_b (b : List UInt8) : ((rdB b).2.2 = 0 → (rdB b).2.1 ≤ b.length ∧ 0 < (rdB b).2.1) ∧ ((rdB b).2.2 ≠ 0 → (rdB b).1 = [] ∧ (rdB b).2.1 = 0) ∧ (rdB b).1.length ≤ b.length := by
  have h := rdU_b b
  generalize hr : rdU b = r at *
  obtain ⟨n, kk, e⟩ := r
  dsimp only at h
  by_cases h1 : e = 0
  · subst h1
    have h2 := h.1 rfl
    by_cases h3 : b.length - kk < n
    · have e0 : rdB b = ([], 0, 5) := by unfold rdB; rw [hr, if_neg (by simp), if_pos h3]
      rw [e0]; simp
    · have e0 : rdB b = ((b.drop kk).take n, kk + n, 0) := by unfold rdB; rw [hr, if_neg (by simp), if_neg h3]
      rw [e0]
      refine ⟨fun _ => by show _ + _ ≤ _ ∧ 0 < _ + _; omega, fun h3 => absurd rfl h3, ?_⟩
      show (List.take _ _).length ≤ _
      rw [List.length_take, List.length_drop]; omega
  · have e0 : rdB b = ([], 0, e) := by unfold rdB; rw [hr, if_pos h1]
    rw [e0]; simp [h1]
theorem rdI_b (b : List UInt8) : ((rdI b).2.2 = 0 → (rdI b).2.1 ≤ b.length ∧ 0 < (rdI b).2.1) ∧ ((rdI b).2.2 ≠ 0 → (rdI b).1 = 0 ∧ (rdI b).2.1 = 0) := by
  have h := rdU_b b
  unfold rdI
  refine ⟨fun h2 => ?_, fun h2 => ?_⟩
  · have := h.1 h2; exact ⟨this.1, this.2.1⟩
  · have := h.2.2 h2
    show zag _ = 0 ∧ _ = 0
    rw [this.1]; exact ⟨rfl, this.2⟩
section
variable {m : Nat} {c : UInt8} {r : List UInt8}
theorem rdT_nil : rdT (m + 1) [] = (T0, 0, 5) := by rw [rdT]
theorem rdT_0 (b : List UInt8) : rdT 0 b = (T0, 0, 6) := by rw [rdT]
theorem rdT_1 (h : (c.toNat : Int) = 1) : rdT (m + 1) (c :: r) = (.mk 1 (rdI r).1 [] [], 1 + (rdI r).2.1, (rdI r).2.2) := by rw [rdT, if_pos h]
theorem rdT_2 (h : (c.toNat : Int) = 2) : rdT (m + 1) (c :: r) = (.mk 2 0 (rdB r).1 [], 1 + (rdB r).2.1, (rdB r).2.2) := by rw [rdT, if_neg (by omega), if_pos h]
theorem rdT_k0 (h : (c.toNat : Int) = 3 ∨ (c.toNat : Int) = 4) : rdT (m + 1) (c :: r) = (.mk c.toNat 0 [] [], 1, 0) := by
  rw [rdT, if_neg (by omega), if_neg (by omega), if_pos (by unfold kidsK; rw [if_pos h])]
theorem kidsK_1 {k : Int} (h : k = 5 ∨ k = 6) : kidsK k = 1 := by unfold kidsK; rw [if_neg (by omega), if_pos h]
theorem kidsK_2 {k : Int} (h : 7 ≤ k ∧ k ≤ 14) : kidsK k = 2 := by unfold kidsK; rw [if_neg (by omega), if_neg (by omega), if_pos h]
theorem kidsK_0 {k : Int} (h : k = 3 ∨ k = 4) : kidsK k = 0 := by unfold kidsK; rw [if_pos h]
theorem kidsK_n {k : Int} (h : k < 3 ∨ 14 < k) : kidsK k = -1 := by unfold kidsK; rw [if_neg (by omega), if_neg (by omega), if_neg (by omega)]
theorem rdT_k1 (h : (c.toNat : Int) = 5 ∨ (c.toNat : Int) = 6) : rdT (m + 1) (c :: r) = if (rdT m r).2.2 ≠ 0 then (T0, 0, (rdT m r).2.2) else (.mk c.toNat 0 [] [(rdT m r).1], 1 + (rdT m r).2.1, 0) := by
  rw [rdT, if_neg (by omega), if_neg (by omega), kidsK_1 h, if_neg (by omega), if_pos rfl]
theorem rdT_k2 (h : 7 ≤ (c.toNat : Int) ∧ (c.toNat : Int) ≤ 14) : rdT (m + 1) (c :: r) = if (rdT m r).2.2 ≠ 0 then (T0, 0, (rdT m r).2.2)
       else if (rdT m (r.drop (rdT m r).2.1)).2.2 ≠ 0 then (T0, 0, (rdT m (r.drop (rdT m r).2.1)).2.2)
       else (.mk c.toNat 0 [] [(rdT m r).1, (rdT m (r.drop (rdT m r).2.1)).1], 1 + (rdT m r).2.1 + (rdT m (r.drop (rdT m r).2.1)).2.1, 0) := by
  rw [rdT, if_neg (by omega), if_neg (by omega), kidsK_2 h, if_neg (by omega), if_neg (by omega), if_pos rfl]
theorem rdT_n (h : (c.toNat : Int) < 1 ∨ 14 < (c.toNat : Int)) : rdT (m + 1) (c :: r) = (T0, 0, 3) := by
  rw [rdT, if_neg (by omega), if_neg (by omega), kidsK_n (by omega), if_neg (by omega), if_neg (by omega), if_neg (by omega)]
end
theorem rdT_b : ∀ (m : Nat) (b : List UInt8), ((rdT m b).2.2 = 0 → (rdT m b).2.1 ≤ b.length ∧ 0 < (rdT m b).2.1)
  | 0, b => by rw [rdT_0]; simp
  | m + 1, [] => by rw [rdT_nil]; simp
  | m + 1, c :: r => by
    intro h
    by_cases h1 : (c.toNat : Int) = 1
    · rw [rdT_1 h1] at h ⊢
      have := (rdI_b r).1 h
      show 1 + _ ≤ _ ∧ 0 < 1 + _
      rw [List.length_cons]; omega
    · by_cases h2 : (c.toNat : Int) = 2
      · rw [rdT_2 h2] at h ⊢
        have := (rdB_b r).1 h
        show 1 + _ ≤ _ ∧ 0 < 1 + _
        rw [List.length_cons]; omega
      · by_cases h3 : (c.toNat : Int) = 3 ∨ (c.toNat : Int) = 4
        · rw [rdT_k0 h3]; simp
        · by_cases h4 : (c.toNat : Int) = 5 ∨ (c.toNat : Int) = 6
          · rw [rdT_k1 h4] at h ⊢
            by_cases e1 : (rdT m r).2.2 = 0
            · rw [if_neg (by omega)]
              have := rdT_b m r e1
              show 1 + _ ≤ _ ∧ 0 < 1 + _
              rw [List.length_cons]; omega
            · rw [if_pos e1] at h; exact absurd h e1
          · by_cases h5 : 7 ≤ (c.toNat : Int) ∧ (c.toNat : Int) ≤ 14
            · rw [rdT_k2 h5] at h ⊢
              by_cases e1 : (rdT m r).2.2 = 0
              · rw [if_neg (by omega)] at h ⊢
                by_cases e2 : (rdT m (r.drop (rdT m r).2.1)).2.2 = 0
                · rw [if_neg (by omega)]
                  have a1 := rdT_b m r e1
                  have a2 := rdT_b m (r.drop (rdT m r).2.1) e2
                  rw [List.length_drop] at a2
                  show 1 + _ + _ ≤ _ ∧ 0 < 1 + _ + _
                  rw [List.length_cons]; omega
                · rw [if_pos e2] at h; exact absurd h e2
              · rw [if_pos e1] at h; exact absurd h e1
            · rw [rdT_n (by omega)] at h; cases h
end Go.RxTree
namespace Go.RxTree
open Go Go.Rx
theorem zag_wf {n : Nat} (h : n < 18446744073709551616) : (Lit.int .i64 (zag n)).wf = true := by
  rw [wf_i64]; unfold zag; split <;> omega
theorem u8_wf (c : UInt8) : (Lit.int .i64 (c.toNat : Int)).wf = true := by
  have := c.toNat_lt
  rw [wf_i64]; omega
theorem T0_ok : T0.Ok ∧ T0.Sm := ⟨⟨by decide, by decide, by simp, by simp, trivial⟩, ⟨by simp, trivial⟩⟩
/-- What is read is a tree of data. -/
theorem rdT_ok : ∀ (m : Nat) (b : List UInt8), b.length ≤ 140737488351232 → (rdT m b).1.Ok ∧ (rdT m b).1.Sm
  | 0, b, _ => by rw [rdT_0]; exact T0_ok
  | m + 1, [], _ => by rw [rdT_nil]; exact T0_ok
  | m + 1, c :: r, hb => by
    rw [List.length_cons] at hb
    by_cases h1 : (c.toNat : Int) = 1
    · rw [rdT_1 h1]
      exact ⟨⟨by decide, zag_wf (rdU_b r).2.1, by simp, by simp, trivial⟩, ⟨by simp, trivial⟩⟩
    · by_cases h2 : (c.toNat : Int) = 2
      · rw [rdT_2 h2]
        have := (rdB_b r).2.2
        exact ⟨⟨by decide, by decide, by unfold maxLen; omega, by simp, trivial⟩, ⟨by omega, trivial⟩⟩
      · by_cases h3 : (c.toNat : Int) = 3 ∨ (c.toNat : Int) = 4
        · rw [rdT_k0 h3]; exact ⟨⟨u8_wf c, by decide, by simp, by simp, trivial⟩, ⟨by simp, trivial⟩⟩
        · by_cases h4 : (c.toNat : Int) = 5 ∨ (c.toNat : Int) = 6
          · rw [rdT_k1 h4]
            have i1 := rdT_ok m r (by omega)
            split
            · exact T0_ok
            · exact ⟨⟨u8_wf c, by decide, by simp, by simp [maxLen], i1.1, trivial⟩, ⟨by simp, i1.2, trivial⟩⟩
          · by_cases h5 : 7 ≤ (c.toNat : Int) ∧ (c.toNat : Int) ≤ 14
            · rw [rdT_k2 h5]
              have i1 := rdT_ok m r (by omega)
              have i2 := rdT_ok m (r.drop (rdT m r).2.1) (by rw [List.length_drop]; omega)
              split
              · exact T0_ok
              · split
                · exact T0_ok
                · exact ⟨⟨u8_wf c, by decide, by simp, by simp [maxLen], i1.1, i2.1, trivial⟩, ⟨by simp, i1.2, i2.2, trivial⟩⟩
            · rw [rdT_n (by omega)]; exact T0_ok
/-- The ends of reading a tree that may be. -/
theorem rdX_e {b : List UInt8} {e : Int} (h : (rdT 16 b).2.2 = e) (he : e ≠ 0) : rdX b = (T0, 0, e) := by
  unfold rdX; dsimp only
  rw [h, if_neg he, if_pos he]
theorem rdX_c {b : List UInt8} (h : (rdT 16 b).2.2 = 0) (he : checkT (rdT 16 b).1 1 ≠ 0) : rdX b = (T0, 0, checkT (rdT 16 b).1 1) := by
  unfold rdX; dsimp only
  rw [h, if_pos rfl, if_pos he]
theorem rdX_0 {b : List UInt8} (h : (rdT 16 b).2.2 = 0) (he : checkT (rdT 16 b).1 1 = 0) : rdX b = ((rdT 16 b).1, (rdT 16 b).2.1, 0) := by
  unfold rdX; dsimp only
  rw [h, if_pos rfl, if_neg (by omega)]
theorem rdX_ok (b : List UInt8) (hb : b.length ≤ 140737488351232) : (rdX b).1.Ok ∧ (rdX b).1.Sm := by
  by_cases h : (rdT 16 b).2.2 = 0
  · by_cases h2 : checkT (rdT 16 b).1 1 = 0
    · rw [rdX_0 h h2]; exact rdT_ok 16 b hb
    · rw [rdX_c h h2]; exact T0_ok
  · rw [rdX_e rfl h]; exact T0_ok
theorem rdX_b (b : List UInt8) : ((rdX b).2.2 = 0 → (rdX b).2.1 ≤ b.length ∧ 0 < (rdX b).2.1 ∧ checkT (rdX b).1 1 = 0 ∧ (rdT 16 b).2.2 = 0 ∧ rdX b = rdT 16 b) ∧ ((rdX b).2.2 ≠ 0 → rdX b = (T0, 0, (rdX b).2.2)) := by
  by_cases h : (rdT 16 b).2.2 = 0
  · by_cases h2 : checkT (rdT 16 b).1 1 = 0
    · rw [rdX_0 h h2]
      have := rdT_b 16 b h
      exact ⟨fun _ => ⟨this.1, this.2, h2, h, Prod.ext rfl (Prod.ext rfl h.symm)⟩, fun hh => absurd rfl hh⟩
    · rw [rdX_c h h2]; exact ⟨fun hh => absurd hh h2, fun _ => rfl⟩
  · rw [rdX_e rfl h]; exact ⟨fun hh => absurd hh h, fun _ => rfl⟩
end Go.RxTree
end
section
set_option linter.unusedVariables false
set_option linter.unusedSimpArgs false
namespace Go.RxTree
open Go Go.Rx
/-- The next number, up to a greatest one. -/
def rdN (most : Nat) (b : List UInt8) : Nat × Nat × Int :=
  if (rdU b).2.2 ≠ 0 then (0, 0, (rdU b).2.2) else if most < (rdU b).1 then (0, (rdU b).2.1, 6) else rdU b
/-- The next byte. -/
def rdO : List UInt8 → Nat × Nat × Int
  | [] => (0, 0, 5)
  | c :: r => (c.toNat, 1, 0)
/-- The next tree, or none. -/
def rdM : List UInt8 → List T × Nat × Int
  | [] => ([], 0, 5)
  | c :: r => if c.toNat = 0 then ([], 1, 0) else if 1 < c.toNat then ([], 1, 3) else ([(rdX r).1], 1 + (rdX r).2.1, (rdX r).2.2)
/-- What model's reader keeps behind each step. -/
def mN (most : Nat) (b : List UInt8) : List UInt8 := if (rdU b).2.2 ≠ 0 then [] else b.drop (rdU b).2.1
def mO : List UInt8 → List UInt8
  | [] => []
  | _ :: r => r
def mM : List UInt8 → List UInt8
  | [] => []
  | c :: r => if c.toNat = 0 ∨ 1 < c.toNat then r else rest r (rdX r).2.1 (rdX r).2.2
end Go.RxTree
end
section
set_option linter.unusedVariables false
set_option linter.unusedSimpArgs false
namespace Go.RxTree
open Go Go.Rx
def maybeB (l : List T) : List UInt8 := UInt8.ofNat l.length :: exprL l
def flowB (f : FlowT) : List UInt8 := uintB f.to.toNat ++ maybeB f.iff
def flowsB (l : List FlowT) : List UInt8 := l.flatMap flowB
def placeB (p : PlaceT) : List UInt8 := UInt8.ofNat p.kind.toNat :: (bytesB p.name ++ (uintB p.n.toNat ++ (maybeB p.arg ++ (uintB p.out.length ++ flowsB p.out))))
def placesB (l : List PlaceT) : List UInt8 := l.flatMap placeB
def defB (d : DefT) : List UInt8 := bytesB d.id ++ (uintB d.places.length ++ placesB d.places)
/-- None, or a tree that may be. -/
def GoodL (l : List T) : Prop := l.length ≤ 1 ∧ ∀ x ∈ l, checkT x 1 = 0
structure GoodF (n : Int) (f : FlowT) : Prop where
  to : 1 ≤ f.to ∧ f.to < n
  iff : GoodL f.iff
structure GoodP (n : Int) (p : PlaceT) : Prop where
  kind : 1 ≤ p.kind ∧ p.kind ≤ 9
  name : p.name.length ≤ 32
  num : 0 ≤ p.n ∧ p.n ≤ 9
  arg : GoodL p.arg
  few : p.out.length ≤ 16
  out : ∀ f ∈ p.out, GoodF n f
structure GoodD (d : DefT) : Prop where
  id : d.id.length ≤ 32
  some : 1 ≤ d.places.length
  few : d.places.length ≤ 4096
  places : ∀ p ∈ d.places, GoodP d.places.length p
theorem typedS_chk {x : T} {b : Bool} (h : typedS x b = 0) : checkT x 1 = 0 := by
  unfold typedS at h
  by_cases h1 : (truthP x).2 = 0
  · unfold truthP at h1
    by_cases h2 : checkT x 1 = 0
    · exact h2
    · rw [if_pos h2] at h1; exact absurd h1 h2
  · rw [if_pos h1] at h; exact absurd h h1
theorem nameOk_len {s : List UInt8} (h : nameOk s = true) : s.length ≤ 32 := by
  simp only [Bool.and_eq_true, nameOk, decide_eq_true_eq] at h; omega
theorem good_arg {l : List T} (h : l.length ≤ 1) (ha : argS l = 0) : GoodL l := by
  refine ⟨h, fun x hx => ?_⟩
  match l, h, ha, hx with
  | [y], _, ha, hx =>
    simp only [List.mem_singleton] at hx
    subst hx
    exact typedS_chk (b := false) (by simpa [argS] using ha)
theorem good_name {k : Int} {s : List UInt8} (h : badName k s = false) : s.length ≤ 32 := by
  unfold badName at h
  split at h
  · simp only [Bool.or_eq_false_iff, Bool.not_eq_false'] at h
    exact nameOk_len h.1
  · have : s = [] := by simpa using h
    subst this; simp
theorem fields_good {p : PlaceT} (h : fieldsS p = 0) : (1 ≤ p.kind ∧ p.kind ≤ 9) ∧ p.name.length ≤ 32 ∧ (0 ≤ p.n ∧ p.n ≤ 9) ∧ GoodL p.arg ∧ p.out.length ≤ 16 := by
  unfold fieldsS at h
  split at h
  · cases h
  · rename_i h1
    split at h
    · cases h
    · rename_i h2
      split at h
      · cases h
      · rename_i h3
        split at h
        · cases h
        · rename_i h4
          split at h
          · cases h
          · rename_i h5
            have ha : (p.arg.length : Int) = argN p.kind := Decidable.byContradiction h4
            have hb : argN p.kind ≤ 1 := by unfold argN; split <;> omega
            have hm : mostK p.kind ≤ 16 := by unfold mostK; split <;> (try split) <;> omega
            exact ⟨by omega, good_name (by simpa using h2), by omega, good_arg (by omega) h, by omega⟩
theorem flows_good {k n : Int} : ∀ (l : List FlowT), flowsL k n l = 0 → ∀ f ∈ l, GoodF n f
  | [], h, f, hf => by cases hf
  | g :: r, h, f, hf => by
    rw [flowsL] at h
    split at h
    · cases h
    · rename_i h1
      have hg : GoodL g.iff ∧ flowsL k n r = 0 := by
        split at h
        · split at h
          · rename_i h3
            have : g.iff = [] := List.eq_nil_of_length_eq_zero (by omega)
            rw [this]; exact ⟨⟨by simp, fun x hx => by cases hx⟩, h⟩
          · cases h
        · rcases hi : g.iff with _ | ⟨x, _ | ⟨y, q⟩⟩
          · rw [hi] at h
            simp only [] at h
            split at h
            · exact ⟨⟨by simp, fun x hx => by cases hx⟩, h⟩
            · cases h
          · rw [hi] at h
            simp only [] at h
            split at h
            · rename_i h5
              exact ⟨⟨by simp, fun z hz => by simp only [List.mem_singleton] at hz; subst hz; exact typedS_chk h5⟩, h⟩
            · rename_i h5; exact absurd h h5
          · rw [hi] at h; cases h
      rcases List.mem_cons.1 hf with rfl | hf
      · exact ⟨by omega, hg.1⟩
      · exact flows_good r hg.2 f hf
theorem places_good {n : Int} : ∀ (b : Bool) (l : List PlaceT), placesL n b l = 0 → ∀ p ∈ l, GoodP n p
  | b, [], h, p, hp => by cases hp
  | b, q :: r, h, p, hp => by
    rw [placesL] at h
    split at h
    · rename_i h1; exact absurd h h1
    · rename_i h1
      split at h
      · cases h
      · split at h
        · rename_i h3; exact absurd h h3
        · rename_i h3
          rcases List.mem_cons.1 hp with rfl | hp
          · obtain ⟨a1, a2, a3, a4, a5⟩ := fields_good (Decidable.byContradiction h1)
            exact ⟨a1, a2, a3, a4, a5, flows_good _ (Decidable.byContradiction h3)⟩
          · exact places_good false r h p hp
theorem check_good {d : DefT} (h : checkD d = 0) : GoodD d := by
  unfold checkD at h
  split at h
  · cases h
  · rename_i h1
    split at h
    · cases h
    · rename_i h2
      split at h
      · cases h
      · rename_i h3
        exact ⟨nameOk_len (by simpa using h1), by omega, by omega, places_good true _ h⟩
theorem maybe_len {l : List T} (h : GoodL l) (ho : OkL l) : (maybeB l).length ≤ 4194305 := by
  obtain ⟨h1, h2⟩ := h
  match l, h1, h2, ho with
  | [], _, _, _ => simp [maybeB, exprL]
  | [x], _, h2, ho =>
    have := expr_most (h2 x (by simp)) ho.1
    simp [maybeB, exprL]; omega
theorem flow_len {n : Int} {f : FlowT} (hn : n ≤ 4096) (h : GoodF n f) (ho : f.Ok) : (flowB f).length ≤ 4194315 := by
  have h1 := maybe_len h.iff ho.2.2
  have h2 := h.to
  have h3 := uintB_len10 (n := f.to.toNat) (by omega)
  unfold flowB; rw [List.length_append]; omega
theorem flat_len {α : Type} {g : α → List UInt8} {b : Nat} : ∀ l : List α, (∀ x ∈ l, (g x).length ≤ b) → (l.flatMap g).length ≤ l.length * b
  | [], _ => by simp
  | x :: r, h => by
    have h1 := h x (by simp)
    have h2 := flat_len r (fun y hy => h y (by simp [hy]))
    rw [List.flatMap_cons, List.length_append, List.length_cons, Nat.add_mul]; omega
theorem flat_take {α : Type} {g : α → List UInt8} {l : List α} {i : Nat} {x : α} (h : l[i]? = some x) : (l.take (i + 1)).flatMap g = (l.take i).flatMap g ++ g x := by
  rw [List.take_add_one, h]; simp
theorem flat_le {α : Type} {g : α → List UInt8} {l : List α} {i : Nat} {x : α} (h : l[i]? = some x) : ((l.take i).flatMap g).length + (g x).length ≤ (l.flatMap g).length := by
  have e : l.flatMap g = (l.take (i + 1)).flatMap g ++ (l.drop (i + 1)).flatMap g := by rw [← List.flatMap_append, List.take_append_drop]
  rw [e, List.length_append, flat_take h, List.length_append]; omega
theorem place_len {n : Int} {p : PlaceT} (hn : n ≤ 4096) (h : GoodP n p) (ho : p.Ok) : (placeB p).length ≤ 80000000 := by
  obtain ⟨o1, o2, o3, o4, o5, o6, o7⟩ := ho
  have h1 := maybe_len h.arg o5
  have h2 := h.num
  have h3 := uintB_len10 (n := p.n.toNat) (by omega)
  have h4 := h.name
  have h5 := h.few
  have h6 := uintB_len10 (n := p.out.length) (by omega)
  have h7 := uintB_len10 (n := p.name.length) (by omega)
  have h8 := flat_len (g := flowB) (b := 4194315) p.out (fun f hf => flow_len hn (h.out f hf) (o7 f hf))
  have h9 : p.out.length * 4194315 ≤ 16 * 4194315 := Nat.mul_le_mul_right _ h5
  unfold placeB bytesB flowsB
  simp only [List.length_cons, List.length_append]; omega
theorem def_len {d : DefT} (h : GoodD d) (ho : d.Ok) : (placesB d.places).length ≤ 327680000000 ∧ (bytesB d.id).length ≤ 42 ∧ (uintB d.places.length).length ≤ 10 := by
  have h1 := h.few
  have h2 := flat_len (g := placeB) (b := 80000000) d.places (fun p hp => place_len (by omega) (h.places p hp) (ho.2.2 p hp))
  have h3 : d.places.length * 80000000 ≤ 4096 * 80000000 := Nat.mul_le_mul_right _ h1
  have h4 := uintB_len10 (n := d.places.length) (by omega)
  have h5 := h.id
  have h6 := uintB_len10 (n := d.id.length) (by omega)
  unfold placesB bytesB
  rw [List.length_append]; omega
end Go.RxTree
end
section
set_option linter.unusedVariables false
set_option linter.unusedSimpArgs false
namespace Go.RxTree
open Go Go.Rx
abbrev Sg := List UInt8 × Int
def nx (b : List UInt8) (k : Nat) (e : Int) : Sg := (rest b k e, e)
def sN (most : Nat) (s : Sg) : Nat × Sg := if s.2 ≠ 0 then (0, s) else ((rdN most s.1).1, nx s.1 (rdN most s.1).2.1 (rdN most s.1).2.2)
def sT (s : Sg) : List UInt8 × Sg := if s.2 ≠ 0 then ([], s) else ((rdB s.1).1, nx s.1 (rdB s.1).2.1 (rdB s.1).2.2)
def sO (s : Sg) : Nat × Sg := if s.2 ≠ 0 then (0, s) else ((rdO s.1).1, nx s.1 (rdO s.1).2.1 (rdO s.1).2.2)
def sM (s : Sg) : List T × Sg := if s.2 ≠ 0 then ([], s) else ((rdM s.1).1, nx s.1 (rdM s.1).2.1 (rdM s.1).2.2)
def sFlow (s : Sg) : FlowT × Sg := (⟨(sN 4096 s).1, (sM (sN 4096 s).2).1⟩, (sM (sN 4096 s).2).2)
def sFlows : Nat → Sg → List FlowT × Sg
  | 0, s => ([], s)
  | n + 1, s => if s.2 ≠ 0 then ([], s) else ((sFlow s).1 :: (sFlows n (sFlow s).2).1, (sFlows n (sFlow s).2).2)
def sP1 (s : Sg) : Nat × Sg := sO s
def sP2 (s : Sg) : List UInt8 × Sg := sT (sP1 s).2
def sP3 (s : Sg) : Nat × Sg := sN 9 (sP2 s).2
def sP4 (s : Sg) : List T × Sg := sM (sP3 s).2
def sP5 (s : Sg) : Nat × Sg := sN 16 (sP4 s).2
def sP6 (s : Sg) : List FlowT × Sg := sFlows (sP5 s).1 (sP5 s).2
def sPlace (s : Sg) : PlaceT × Sg := (⟨(sP1 s).1, (sP2 s).1, (sP3 s).1, (sP4 s).1, (sP6 s).1⟩, (sP6 s).2)
def sPlaces : Nat → Sg → List PlaceT × Sg
  | 0, s => ([], s)
  | n + 1, s => if s.2 ≠ 0 then ([], s) else ((sPlace s).1 :: (sPlaces n (sPlace s).2).1, (sPlaces n (sPlace s).2).2)
def sD1 (b : List UInt8) : List UInt8 × Sg := sT (b, 0)
def sD2 (b : List UInt8) : Nat × Sg := sN 4096 (sD1 b).2
def sD3 (b : List UInt8) : List PlaceT × Sg := sPlaces (sD2 b).1 (sD2 b).2
def sDef (b : List UInt8) : DefT := ⟨(sD1 b).1, (sD3 b).1⟩
abbrev D0 : DefT := ⟨[], []⟩
/-- What is wrong with bytes, their definition not looked at. -/
def eDef (b : List UInt8) : Int := if (sD3 b).2.2 = 0 ∧ 0 < (sD3 b).2.1.length then 3 else (sD3 b).2.2
def readD (b : List UInt8) : DefT × Int :=
  if eDef b ≠ 0 then (D0, eDef b) else if checkD (sDef b) ≠ 0 then (D0, checkD (sDef b)) else (sDef b, 0)
theorem rest_len (b : List UInt8) (k : Nat) (e : Int) : (rest b k e).length ≤ b.length := by
  unfold rest; split
  · rw [List.length_drop]; omega
  · simp
theorem sN_len (most : Nat) (s : Sg) : (sN most s).2.1.length ≤ s.1.length := by unfold sN; split; exact Nat.le_refl _; exact rest_len ..
theorem sT_len (s : Sg) : (sT s).2.1.length ≤ s.1.length := by unfold sT; split; exact Nat.le_refl _; exact rest_len ..
theorem sO_len (s : Sg) : (sO s).2.1.length ≤ s.1.length := by unfold sO; split; exact Nat.le_refl _; exact rest_len ..
theorem sM_len (s : Sg) : (sM s).2.1.length ≤ s.1.length := by unfold sM; split; exact Nat.le_refl _; exact rest_len ..
theorem sFlow_len (s : Sg) : (sFlow s).2.1.length ≤ s.1.length := Nat.le_trans (sM_len _) (sN_len _ _)
theorem sFlows_len : ∀ (n : Nat) (s : Sg), (sFlows n s).2.1.length ≤ s.1.length
  | 0, s => Nat.le_refl _
  | n + 1, s => by
    rw [sFlows]; split
    · exact Nat.le_refl _
    · exact Nat.le_trans (sFlows_len n _) (sFlow_len s)
theorem sPlace_len (s : Sg) : (sPlace s).2.1.length ≤ s.1.length :=
  Nat.le_trans (sFlows_len _ _) (Nat.le_trans (sN_len _ _) (Nat.le_trans (sM_len _) (Nat.le_trans (sN_len _ _) (Nat.le_trans (sT_len _) (sO_len _)))))
theorem sN_most (most : Nat) (s : Sg) : (sN most s).1 ≤ most := by
  unfold sN; split
  · exact Nat.zero_le _
  · show (rdN most s.1).1 ≤ most
    unfold rdN; split
    · exact Nat.zero_le _
    · split
      · exact Nat.zero_le _
      · omega
theorem rdN_b (most : Nat) (b : List UInt8) : ((rdN most b).2.2 = 0 → (rdN most b).2.1 ≤ b.length ∧ 0 < (rdN most b).2.1 ∧ rdN most b = rdU b ∧ (rdU b).1 ≤ most) ∧ ((rdN most b).2.2 ≠ 0 → (rdN most b).1 = 0) := by
  have h := rdU_b b
  by_cases h1 : (rdU b).2.2 = 0
  · by_cases h2 : most < (rdU b).1
    · have e : rdN most b = (0, (rdU b).2.1, 6) := by unfold rdN; rw [if_neg (by omega), if_pos h2]
      rw [e]; exact ⟨fun hh => (by cases hh), fun _ => rfl⟩
    · have e : rdN most b = rdU b := by unfold rdN; rw [if_neg (by omega), if_neg h2]
      rw [e]; have := h.1 h1; exact ⟨fun _ => ⟨this.1, this.2.1, rfl, by omega⟩, fun hh => absurd h1 hh⟩
  · have e : rdN most b = (0, 0, (rdU b).2.2) := by unfold rdN; rw [if_pos h1]
    rw [e]; exact ⟨fun hh => absurd hh h1, fun _ => rfl⟩
/-- Model's reader, what it keeps: no longer than what is left was. -/
theorem mN_0 {most : Nat} {b : List UInt8} (h : (rdN most b).2.2 = 0) : mN most b = b.drop (rdN most b).2.1 := by
  have := (rdN_b most b).1 h
  rw [this.2.2.1] at h ⊢
  unfold mN; rw [if_neg (by omega)]
theorem mO_0 {b : List UInt8} (h : (rdO b).2.2 = 0) : mO b = b.drop (rdO b).2.1 := by
  cases b with
  | nil => cases h
  | cons c r => rfl
theorem mM_0 {b : List UInt8} (h : (rdM b).2.2 = 0) : mM b = b.drop (rdM b).2.1 := by
  cases b with
  | nil => cases h
  | cons c r =>
    rw [rdM] at h ⊢
    rw [mM]
    by_cases g0 : c.toNat = 0
    · rw [if_pos (.inl g0), if_pos g0]; rfl
    · rw [if_neg g0] at h ⊢
      by_cases g1 : 1 < c.toNat
      · rw [if_pos g1] at h; cases h
      · rw [if_neg g1] at h ⊢
        rw [if_neg (by omega)]
        dsimp only at h ⊢
        rw [h, rest_0, Nat.add_comm 1, List.drop_succ_cons]
theorem mN_len (most : Nat) (b : List UInt8) : (mN most b).length ≤ b.length := by
  unfold mN; split
  · simp
  · rw [List.length_drop]; omega
theorem mO_len (b : List UInt8) : (mO b).length ≤ b.length := by cases b <;> simp [mO]
theorem mM_len (b : List UInt8) : (mM b).length ≤ b.length := by
  cases b with
  | nil => simp [mM]
  | cons c r =>
    rw [mM, List.length_cons]; split
    · omega
    · have := rest_len r (rdX r).2.1 (rdX r).2.2; omega
theorem rdO_b (b : List UInt8) : ((rdO b).2.2 = 0 → (rdO b).2.1 ≤ b.length ∧ 0 < (rdO b).2.1) ∧ (rdO b).2.1 ≤ b.length ∧ (rdO b).1 < 256 := by
  cases b with
  | nil => simp [rdO]
  | cons c r => have := c.toNat_lt; simp [rdO]; exact this
theorem rdM_b (b : List UInt8) : (rdM b).2.1 ≤ b.length := by
  cases b with
  | nil => simp [rdM]
  | cons c r =>
    rw [rdM, List.length_cons]
    split
    · simp
    · split
      · simp
      · show 1 + _ ≤ _
        by_cases h : (rdX r).2.2 = 0
        · have := ((rdX_b r).1 h).1; omega
        · rw [(rdX_b r).2 h]; simp
theorem rdT_wt : ∀ (m : Nat) (b : List UInt8), ((rdT m b).2.2 = 0 → (rdT m b).1.wt + 1 ≤ 7 * (rdT m b).2.1) ∧ ((rdT m b).2.2 ≠ 0 → (rdT m b).1.wt ≤ 5)
  | 0, b => by rw [rdT_0]; simp [T.wt, wtL]
  | m + 1, [] => by rw [rdT_nil]; simp [T.wt, wtL]
  | m + 1, c :: r => by
    by_cases h1 : (c.toNat : Int) = 1
    · rw [rdT_1 h1]
      refine ⟨fun h => ?_, fun _ => by simp [T.wt, wtL]⟩
      have := (rdI_b r).1 h
      simp [T.wt, wtL]; omega
    · by_cases h2 : (c.toNat : Int) = 2
      · rw [rdT_2 h2]
        refine ⟨fun h => ?_, fun h => ?_⟩
        · have h3 : (rdB r).1.length ≤ (rdB r).2.1 := by
            by_cases hu : (rdU r).2.2 ≠ 0
            · have e0 : rdB r = ([], 0, (rdU r).2.2) := by unfold rdB; rw [if_pos hu]
              rw [e0]; simp
            · by_cases hl : r.length - (rdU r).2.1 < (rdU r).1
              · have e0 : rdB r = ([], 0, 5) := by unfold rdB; rw [if_neg hu, if_pos hl]
                rw [e0]; simp
              · have e0 : rdB r = ((r.drop (rdU r).2.1).take (rdU r).1, (rdU r).2.1 + (rdU r).1, 0) := by unfold rdB; rw [if_neg hu, if_neg hl]
                rw [e0]
                show (List.take _ _).length ≤ _ + _
                rw [List.length_take]; omega
          have h4 := (rdB_b r).1 h
          simp [T.wt, wtL]; omega
        · have := (rdB_b r).2.1 h
          rw [this.1]; simp [T.wt, wtL]
      · by_cases h3 : (c.toNat : Int) = 3 ∨ (c.toNat : Int) = 4
        · rw [rdT_k0 h3]; simp [T.wt, wtL]
        · by_cases h4 : (c.toNat : Int) = 5 ∨ (c.toNat : Int) = 6
          · rw [rdT_k1 h4]
            by_cases e1 : (rdT m r).2.2 = 0
            · rw [if_neg (by omega)]
              have := (rdT_wt m r).1 e1
              refine ⟨fun _ => ?_, fun h => absurd rfl h⟩
              simp [T.wt, wtL]; omega
            · rw [if_pos e1]; exact ⟨fun h => absurd h e1, fun _ => by simp [T.wt, wtL]⟩
          · by_cases h5 : 7 ≤ (c.toNat : Int) ∧ (c.toNat : Int) ≤ 14
            · rw [rdT_k2 h5]
              by_cases e1 : (rdT m r).2.2 = 0
              · rw [if_neg (by omega)]
                by_cases e2 : (rdT m (r.drop (rdT m r).2.1)).2.2 = 0
                · rw [if_neg (by omega)]
                  have a1 := (rdT_wt m r).1 e1
                  have a2 := (rdT_wt m (r.drop (rdT m r).2.1)).1 e2
                  refine ⟨fun _ => ?_, fun h => absurd rfl h⟩
                  simp [T.wt, wtL]; omega
                · rw [if_pos e2]; exact ⟨fun h => absurd h e2, fun _ => by simp [T.wt, wtL]⟩
              · rw [if_pos e1]; exact ⟨fun h => absurd h e1, fun _ => by simp [T.wt, wtL]⟩
            · rw [rdT_n (by omega)]; exact ⟨fun h => (by cases h), fun _ => by simp [T.wt, wtL]⟩
/-- No tree that is read weighs more than its bytes let it. -/
theorem rdT_most (b : List UInt8) : (rdT 16 b).1.wt ≤ 7 * b.length + 5 := by
  by_cases h : (rdT 16 b).2.2 = 0
  · have h1 := (rdT_wt 16 b).1 h
    have h2 := rdT_b 16 b h
    omega
  · have := (rdT_wt 16 b).2 h; omega
end Go.RxTree
end
section
set_option linter.unusedVariables false
set_option linter.unusedSimpArgs false
namespace Go.RxTree
open Go Go.Rx
theorem nat_wf {n : Nat} (h : n ≤ 1000000) : (Lit.int .i64 (n : Int)).wf = true := by rw [wf_i64]; omega
theorem rdM_ok (b : List UInt8) (hb : b.length ≤ 140737488351232) : (rdM b).1.length ≤ 1 ∧ OkL (rdM b).1 ∧ SmL (rdM b).1 := by
  cases b with
  | nil => exact ⟨by simp [rdM], trivial, trivial⟩
  | cons c r =>
    rw [List.length_cons] at hb
    rw [rdM]
    split
    · exact ⟨by simp, trivial, trivial⟩
    · split
      · exact ⟨by simp, trivial, trivial⟩
      · have := rdX_ok r (by omega)
        exact ⟨by simp, ⟨this.1, trivial⟩, ⟨this.2, trivial⟩⟩
theorem sM_ok (s : Sg) (hb : s.1.length ≤ 140737488351232) : (sM s).1.length ≤ 1 ∧ OkL (sM s).1 ∧ SmL (sM s).1 := by
  unfold sM; split
  · exact ⟨by simp, trivial, trivial⟩
  · exact rdM_ok _ hb
theorem sT_ok (s : Sg) : (sT s).1.length ≤ s.1.length := by
  unfold sT; split
  · simp
  · exact (rdB_b s.1).2.2
theorem sO_ok (s : Sg) : (sO s).1 ≤ 255 := by
  unfold sO; split
  · exact Nat.zero_le _
  · have := (rdO_b s.1).2.2; show (rdO s.1).1 ≤ 255; omega
theorem sFlow_ok (s : Sg) (hb : s.1.length ≤ 140737488351232) : (sFlow s).1.Ok ∧ (sFlow s).1.Sm := by
  have h1 := sN_most 4096 s
  have h2 := sM_ok (sN 4096 s).2 (Nat.le_trans (sN_len _ _) hb)
  exact ⟨⟨nat_wf (by omega), Nat.le_trans h2.1 (by decide), h2.2.1⟩, h2.2.2⟩
theorem sFlows_ok : ∀ (n : Nat) (s : Sg), s.1.length ≤ 140737488351232 → (sFlows n s).1.length ≤ n ∧ ∀ f ∈ (sFlows n s).1, f.Ok ∧ f.Sm
  | 0, s, hb => ⟨Nat.le_refl _, fun f h => by cases h⟩
  | n + 1, s, hb => by
    rw [sFlows]; split
    · exact ⟨by simp, fun f h => by cases h⟩
    · have h1 := sFlow_ok s hb
      have h2 := sFlows_ok n (sFlow s).2 (Nat.le_trans (sFlow_len s) hb)
      refine ⟨by simp only [List.length_cons]; omega, fun f h => ?_⟩
      rcases List.mem_cons.1 h with rfl | h
      · exact h1
      · exact h2.2 f h
theorem sPlace_ok (s : Sg) (hb : s.1.length ≤ 140737488351232) : (sPlace s).1.Ok ∧ (sPlace s).1.Sm := by
  have l1 := sO_len s
  have l2 := sT_len (sO s).2
  have l3 := sN_len 9 (sT (sO s).2).2
  have l4 := sM_len (sN 9 (sT (sO s).2).2).2
  have l5 := sN_len 16 (sM (sN 9 (sT (sO s).2).2).2).2
  have h1 := sO_ok s
  have h2 := sT_ok (sO s).2
  have h3 := sN_most 9 (sT (sO s).2).2
  have h4 := sM_ok (sN 9 (sT (sO s).2).2).2 (by omega)
  have h5 := sN_most 16 (sM (sN 9 (sT (sO s).2).2).2).2
  have h6 := sFlows_ok (sN 16 (sM (sN 9 (sT (sO s).2).2).2).2).1 (sN 16 (sM (sN 9 (sT (sO s).2).2).2).2).2 (by omega)
  have hm : 140737488351232 ≤ maxLen := by decide
  have n2 : (sT (sO s).2).1.length ≤ 140737488351232 := by omega
  have n6 : (sFlows (sN 16 (sM (sN 9 (sT (sO s).2).2).2).2).1 (sN 16 (sM (sN 9 (sT (sO s).2).2).2).2).2).1.length ≤ 140737488351232 := by omega
  exact ⟨⟨nat_wf (n := (sO s).1) (by omega), Nat.le_trans n2 hm, nat_wf (n := (sN 9 (sT (sO s).2).2).1) (by omega), Nat.le_trans h4.1 (by decide), h4.2.1, Nat.le_trans n6 hm, fun f hf => (h6.2 f hf).1⟩,
    ⟨n2, h4.2.2, fun f hf => (h6.2 f hf).2, n6⟩⟩
theorem sPlaces_ok : ∀ (n : Nat) (s : Sg), s.1.length ≤ 140737488351232 → (sPlaces n s).1.length ≤ n ∧ ∀ f ∈ (sPlaces n s).1, f.Ok ∧ f.Sm
  | 0, s, hb => ⟨Nat.le_refl _, fun f h => by cases h⟩
  | n + 1, s, hb => by
    rw [sPlaces]; split
    · exact ⟨by simp, fun f h => by cases h⟩
    · have h1 := sPlace_ok s hb
      have h2 := sPlaces_ok n (sPlace s).2 (Nat.le_trans (sPlace_len s) hb)
      refine ⟨by simp only [List.length_cons]; omega, fun f h => ?_⟩
      rcases List.mem_cons.1 h with rfl | h
      · exact h1
      · exact h2.2 f h
theorem sDef_ok (b : List UInt8) (hb : b.length ≤ 140737488351232) : (sDef b).Ok ∧ (sDef b).Sm := by
  have l1 := sT_len (b, 0)
  have l2 := sN_len 4096 (sT (b, 0)).2
  have h1 := sT_ok (b, 0)
  have h2 := sN_most 4096 (sT (b, 0)).2
  have h3 := sPlaces_ok (sN 4096 (sT (b, 0)).2).1 (sN 4096 (sT (b, 0)).2).2 (by dsimp only at l1; omega)
  have hm : 140737488351232 ≤ maxLen := by decide
  dsimp only at h1
  have n2 : (sT (b, 0)).1.length ≤ 140737488351232 := by omega
  have n3 : (sPlaces (sN 4096 (sT (b, 0)).2).1 (sN 4096 (sT (b, 0)).2).2).1.length ≤ 140737488351232 := by omega
  exact ⟨⟨Nat.le_trans n2 hm, Nat.le_trans n3 hm, fun p hp => (h3.2 p hp).1⟩, ⟨n2, fun p hp => (h3.2 p hp).2⟩⟩
theorem sPlaces_e (n : Nat) {s : Sg} (h : s.2 ≠ 0) : sPlaces n s = ([], s) := by
  cases n with
  | zero => rfl
  | succ n => rw [sPlaces, if_pos h]
theorem sPlaces_1 (n : Nat) {s : Sg} (h : s.2 = 0) : sPlaces (n + 1) s = ((sPlace s).1 :: (sPlaces n (sPlace s).2).1, (sPlaces n (sPlace s).2).2) := by
  rw [sPlaces, if_neg (by omega)]
theorem D0_ok : D0.Ok ∧ D0.Sm := ⟨⟨by simp, by simp, fun p hp => by cases hp⟩, ⟨by simp, fun p hp => by cases hp⟩⟩
theorem readD_ok (b : List UInt8) (hb : b.length ≤ 140737488351232) : (readD b).1.Ok ∧ (readD b).1.Sm := by
  have h := sDef_ok b hb
  by_cases h1 : eDef b = 0
  · by_cases h2 : checkD (sDef b) = 0
    · have e : readD b = (sDef b, 0) := by unfold readD; rw [if_neg (by omega), if_neg (by omega)]
      rw [e]; exact h
    · have e : readD b = (D0, checkD (sDef b)) := by unfold readD; rw [if_neg (by omega), if_pos h2]
      rw [e]; exact D0_ok
  · have e : readD b = (D0, eDef b) := by unfold readD; rw [if_pos h1]
    rw [e]; exact D0_ok
end Go.RxTree
namespace Go.RxTree
open Go Go.Rx
theorem readD_e {b : List UInt8} (h : (sD3 b).2.2 ≠ 0) : readD b = (D0, (sD3 b).2.2) := by
  have e : eDef b = (sD3 b).2.2 := by unfold eDef; rw [if_neg (by omega)]
  unfold readD; rw [e, if_pos h]
theorem readD_3 {b : List UInt8} (h : (sD3 b).2.2 = 0) (hl : 0 < (sD3 b).2.1.length) : readD b = (D0, 3) := by
  have e : eDef b = 3 := by unfold eDef; rw [if_pos ⟨h, hl⟩]
  unfold readD; rw [e]; rfl
theorem readD_c {b : List UInt8} (h : (sD3 b).2.2 = 0) (hl : ¬ 0 < (sD3 b).2.1.length) (hc : checkD (sDef b) ≠ 0) : readD b = (D0, checkD (sDef b)) := by
  have e : eDef b = 0 := by unfold eDef; rw [if_neg (by omega), h]
  unfold readD; rw [e, if_neg (by omega), if_pos hc]
theorem readD_0 {b : List UInt8} (h : (sD3 b).2.2 = 0) (hl : ¬ 0 < (sD3 b).2.1.length) (hc : checkD (sDef b) = 0) : readD b = (sDef b, 0) := by
  have e : eDef b = 0 := by unfold eDef; rw [if_neg (by omega), h]
  unfold readD; rw [e, if_neg (by omega), if_neg (by omega)]
end Go.RxTree
end
section
set_option linter.unusedVariables false
set_option linter.unusedSimpArgs false
namespace Go.RxTree
open Go Go.Rx
theorem u8_nat (c : UInt8) : UInt8.ofNat c.toNat = c := by simp
theorem rdUG_once : ∀ (b : List UInt8) (i acc n k : Nat), rdUG i acc b = (n, k, 0) → ∃ q r, n = acc + q * 128 ^ i ∧ k = i + (uintB q).length ∧ b = uintB q ++ r ∧ (0 < i → 0 < q)
  | [], i, acc, n, k, h => by simp [rdUG] at h
  | c :: r, i, acc, n, k, h => by
    have hc := c.toNat_lt
    rw [rdUG] at h
    by_cases h1 : i = 9 ∧ 1 < c.toNat
    · rw [if_pos h1] at h; simp at h
    · rw [if_neg h1] at h
      by_cases h2 : c.toNat < 128
      · rw [if_pos h2] at h
        by_cases h3 : c.toNat = 0 ∧ 0 < i
        · rw [if_pos h3] at h; simp at h
        · rw [if_neg h3] at h
          simp only [Prod.mk.injEq] at h
          refine ⟨c.toNat, r, ?_, ?_, ?_, fun hi => by omega⟩
          · rw [← h.1, Nat.mod_eq_of_lt h2]
          · rw [uintB_0 h2]; simp; omega
          · rw [uintB_0 h2, u8_nat]; rfl
      · rw [if_neg h2] at h
        obtain ⟨q, r', e1, e2, e3, e4⟩ := rdUG_once r (i + 1) _ n k h
        have hq := e4 (by omega)
        have hlt : ¬ c.toNat % 128 + 128 * q < 128 := by omega
        refine ⟨c.toNat % 128 + 128 * q, r', ?_, ?_, ?_, fun _ => by omega⟩
        · rw [e1, Nat.pow_succ, Nat.add_mul, Nat.mul_comm 128 q, Nat.mul_assoc q 128, Nat.mul_comm 128]; omega
        · rw [uintB_1 hlt, List.length_cons, show (c.toNat % 128 + 128 * q) / 128 = q by omega]; omega
        · rw [uintB_1 hlt, show (c.toNat % 128 + 128 * q) / 128 = q by omega, show (c.toNat % 128 + 128 * q) % 128 + 128 = c.toNat by omega, u8_nat, List.cons_append, ← e3]
theorem rdU_once {b : List UInt8} {n k : Nat} (h : rdU b = (n, k, 0)) : b = uintB n ++ b.drop k := by
  obtain ⟨q, r, e1, e2, e3, _⟩ := rdUG_once b 0 0 n k h
  simp only [Nat.pow_zero, Nat.mul_one, Nat.zero_add] at e1 e2
  subst e1 e2
  conv => lhs; rw [e3]
  rw [e3, List.drop_left]
theorem rdI_once {b : List UInt8} {n : Int} {k : Nat} (h : rdI b = (n, k, 0)) : b = uintB (zig n) ++ b.drop k := by
  unfold rdI at h
  simp only [Prod.mk.injEq] at h
  rw [← h.1, zig_zag]
  exact rdU_once (Prod.ext rfl (Prod.ext h.2.1 h.2.2))
theorem rdB_once {b : List UInt8} {s : List UInt8} {k : Nat} (h : rdB b = (s, k, 0)) : b = bytesB s ++ b.drop k := by
  unfold rdB at h
  generalize hr : rdU b = r at *
  obtain ⟨n, q, e⟩ := r
  dsimp only at h
  by_cases h1 : e = 0
  · subst h1
    rw [if_neg (by omega)] at h
    by_cases h2 : b.length - q < n
    · rw [if_pos h2] at h; simp at h
    · rw [if_neg h2] at h
      simp only [Prod.mk.injEq] at h
      have h3 := rdU_once hr
      have hl : s.length = n := by rw [← h.1, List.length_take, List.length_drop]; omega
      have hq := ((rdU_b b).1 (by rw [hr])).1
      rw [hr] at hq
      dsimp only at hq
      rw [bytesB, hl, ← h.1, ← h.2.1, List.append_assoc]
      have : (b.drop q).take n ++ b.drop (q + n) = b.drop q := by rw [← List.drop_drop]; exact List.take_append_drop ..
      rw [this]; exact h3
  · rw [if_pos h1] at h
    simp only [Prod.mk.injEq] at h
    exact absurd h.2.2 h1
theorem rdT_once : ∀ (m : Nat) (b : List UInt8) (t : T) (k : Nat), rdT m b = (t, k, 0) → b = exprB t ++ b.drop k
  | 0, b, t, k, h => by rw [rdT_0] at h; simp at h
  | m + 1, [], t, k, h => by rw [rdT_nil] at h; simp at h
  | m + 1, c :: r, t, k, h => by
    have hcz : ∀ z : Int, (c.toNat : Int) = z → UInt8.ofNat z.toNat = c := fun z hz => by subst hz; simp
    by_cases h1 : (c.toNat : Int) = 1
    · rw [rdT_1 h1] at h
      simp only [Prod.mk.injEq] at h
      obtain ⟨rfl, rfl, h3⟩ := h
      have := rdI_once (b := r) (n := (rdI r).1) (k := (rdI r).2.1) (Prod.ext rfl (Prod.ext rfl h3))
      rw [exprB, if_pos rfl, hcz 1 h1, Nat.add_comm 1, List.drop_succ_cons, List.cons_append, ← this]
    · by_cases h2 : (c.toNat : Int) = 2
      · rw [rdT_2 h2] at h
        simp only [Prod.mk.injEq] at h
        obtain ⟨rfl, rfl, h3⟩ := h
        have := rdB_once (b := r) (s := (rdB r).1) (k := (rdB r).2.1) (Prod.ext rfl (Prod.ext rfl h3))
        rw [exprB, if_neg (by decide), if_pos rfl, hcz 2 h2, Nat.add_comm 1, List.drop_succ_cons, List.cons_append, ← this]
      · have hkB : ∀ l, exprB (.mk (c.toNat : Int) 0 [] l) = c :: exprL l := fun l => by rw [exprB, if_neg h1, if_neg h2, hcz _ rfl]
        by_cases h3 : (c.toNat : Int) = 3 ∨ (c.toNat : Int) = 4
        · rw [rdT_k0 h3] at h
          simp only [Prod.mk.injEq] at h
          obtain ⟨rfl, rfl, _⟩ := h
          rw [hkB]; rfl
        · by_cases h4 : (c.toNat : Int) = 5 ∨ (c.toNat : Int) = 6
          · rw [rdT_k1 h4] at h
            by_cases e1 : (rdT m r).2.2 = 0
            · rw [if_neg (by omega)] at h
              simp only [Prod.mk.injEq] at h
              obtain ⟨rfl, rfl, _⟩ := h
              have := rdT_once m r (rdT m r).1 (rdT m r).2.1 (Prod.ext rfl (Prod.ext rfl e1))
              rw [hkB, Nat.add_comm 1, List.drop_succ_cons, List.cons_append, exprL, exprL, List.append_nil, ← this]
            · rw [if_pos e1] at h
              simp only [Prod.mk.injEq] at h
              exact absurd h.2.2 e1
          · by_cases h5 : 7 ≤ (c.toNat : Int) ∧ (c.toNat : Int) ≤ 14
            · rw [rdT_k2 h5] at h
              by_cases e1 : (rdT m r).2.2 = 0
              · rw [if_neg (by omega)] at h
                by_cases e2 : (rdT m (r.drop (rdT m r).2.1)).2.2 = 0
                · rw [if_neg (by omega)] at h
                  simp only [Prod.mk.injEq] at h
                  obtain ⟨rfl, rfl, _⟩ := h
                  have a1 := rdT_once m r (rdT m r).1 (rdT m r).2.1 (Prod.ext rfl (Prod.ext rfl e1))
                  have a2 := rdT_once m (r.drop (rdT m r).2.1) (rdT m (r.drop (rdT m r).2.1)).1 (rdT m (r.drop (rdT m r).2.1)).2.1 (Prod.ext rfl (Prod.ext rfl e2))
                  rw [hkB, show 1 + (rdT m r).2.1 + (rdT m (r.drop (rdT m r).2.1)).2.1 = ((rdT m r).2.1 + (rdT m (r.drop (rdT m r).2.1)).2.1) + 1 by omega, List.drop_succ_cons, List.cons_append, exprL, exprL, exprL, List.append_nil, List.append_assoc, ← List.drop_drop, ← a2, ← a1]
                · rw [if_pos e2] at h
                  simp only [Prod.mk.injEq] at h
                  exact absurd h.2.2 e2
              · rw [if_pos e1] at h
                simp only [Prod.mk.injEq] at h
                exact absurd h.2.2 e1
            · rw [rdT_n (by omega)] at h; simp at h
theorem rdM_once {b : List UInt8} {l : List T} {k : Nat} (h : rdM b = (l, k, 0)) : b = maybeB l ++ b.drop k := by
  cases b with
  | nil => simp [rdM] at h
  | cons c r =>
    rw [rdM] at h
    by_cases h1 : c.toNat = 0
    · rw [if_pos h1] at h
      simp only [Prod.mk.injEq] at h
      obtain ⟨rfl, rfl, _⟩ := h
      have hc : UInt8.ofNat 0 = c := by rw [← h1, u8_nat]
      show c :: r = (UInt8.ofNat 0 :: exprL []) ++ r
      rw [hc]; rfl
    · rw [if_neg h1] at h
      by_cases h2 : 1 < c.toNat
      · rw [if_pos h2] at h; simp at h
      · rw [if_neg h2] at h
        simp only [Prod.mk.injEq] at h
        obtain ⟨rfl, rfl, h3⟩ := h
        obtain ⟨_, _, _, h4, h5⟩ := (rdX_b r).1 h3
        rw [h5]
        have := rdT_once 16 r (rdT 16 r).1 (rdT 16 r).2.1 (Prod.ext rfl (Prod.ext rfl h4))
        have hc : UInt8.ofNat 1 = c := by rw [show (1 : Nat) = c.toNat by omega, u8_nat]
        show c :: r = (UInt8.ofNat 1 :: exprL [(rdT 16 r).1]) ++ _
        rw [hc, Nat.add_comm 1, List.drop_succ_cons, List.cons_append, exprL, exprL, List.append_nil, ← this]
/-- A step that ends well was on bytes that were well, and took what was written. -/
theorem sN_once {most : Nat} {s : Sg} (h : (sN most s).2.2 = 0) : s.2 = 0 ∧ s.1 = uintB (sN most s).1 ++ (sN most s).2.1 := by
  unfold sN at *
  by_cases h1 : s.2 = 0
  · rw [if_neg (by omega)] at h ⊢
    have h2 : (rdN most s.1).2.2 = 0 := h
    have h3 := (rdN_b most s.1).1 h2
    refine ⟨h1, ?_⟩
    show s.1 = uintB (rdN most s.1).1 ++ rest s.1 (rdN most s.1).2.1 (rdN most s.1).2.2
    rw [h2, rest_0]
    exact rdU_once (h3.2.2.1 ▸ Prod.ext rfl (Prod.ext rfl h2))
  · rw [if_pos h1] at h; exact absurd h h1
theorem sT_once {s : Sg} (h : (sT s).2.2 = 0) : s.2 = 0 ∧ s.1 = bytesB (sT s).1 ++ (sT s).2.1 := by
  unfold sT at *
  by_cases h1 : s.2 = 0
  · rw [if_neg (by omega)] at h ⊢
    have h2 : (rdB s.1).2.2 = 0 := h
    refine ⟨h1, ?_⟩
    show s.1 = bytesB (rdB s.1).1 ++ rest s.1 (rdB s.1).2.1 (rdB s.1).2.2
    rw [h2, rest_0]
    exact rdB_once (Prod.ext rfl (Prod.ext rfl h2))
  · rw [if_pos h1] at h; exact absurd h h1
theorem sO_once {s : Sg} (h : (sO s).2.2 = 0) : s.2 = 0 ∧ s.1 = UInt8.ofNat (sO s).1 :: (sO s).2.1 := by
  unfold sO at *
  by_cases h1 : s.2 = 0
  · rw [if_neg (by omega)] at h ⊢
    refine ⟨h1, ?_⟩
    generalize s.1 = b at *
    cases b with
    | nil => cases h
    | cons c r =>
      show c :: r = UInt8.ofNat c.toNat :: r
      rw [u8_nat]
  · rw [if_pos h1] at h; exact absurd h h1
theorem sM_once {s : Sg} (h : (sM s).2.2 = 0) : s.2 = 0 ∧ s.1 = maybeB (sM s).1 ++ (sM s).2.1 := by
  unfold sM at *
  by_cases h1 : s.2 = 0
  · rw [if_neg (by omega)] at h ⊢
    have h2 : (rdM s.1).2.2 = 0 := h
    refine ⟨h1, ?_⟩
    show s.1 = maybeB (rdM s.1).1 ++ rest s.1 (rdM s.1).2.1 (rdM s.1).2.2
    rw [h2, rest_0]
    exact rdM_once (Prod.ext rfl (Prod.ext rfl h2))
  · rw [if_pos h1] at h; exact absurd h h1
theorem sFlow_once {s : Sg} (h : (sFlow s).2.2 = 0) : s.2 = 0 ∧ s.1 = flowB (sFlow s).1 ++ (sFlow s).2.1 := by
  obtain ⟨a1, a2⟩ := sM_once (s := (sN 4096 s).2) h
  obtain ⟨b1, b2⟩ := sN_once (s := s) a1
  refine ⟨b1, ?_⟩
  rw [b2, a2]
  show _ = (uintB ((sN 4096 s).1 : Int).toNat ++ maybeB (sM (sN 4096 s).2).1) ++ _
  rw [Int.toNat_natCast, List.append_assoc]
  rfl
theorem sFlows_1x (n : Nat) {s : Sg} (h : s.2 = 0) : sFlows (n + 1) s = ((sFlow s).1 :: (sFlows n (sFlow s).2).1, (sFlows n (sFlow s).2).2) := by
  rw [sFlows, if_neg (by omega)]
theorem sFlows_once : ∀ (n : Nat) {s : Sg}, (sFlows n s).2.2 = 0 → s.2 = 0 ∧ s.1 = flowsB (sFlows n s).1 ++ (sFlows n s).2.1 ∧ (sFlows n s).1.length = n
  | 0, s, h => ⟨h, rfl, rfl⟩
  | n + 1, s, h => by
    by_cases h1 : s.2 = 0
    · rw [sFlows_1x n h1] at h ⊢
      obtain ⟨a1, a2, a3⟩ := sFlows_once n h
      obtain ⟨b1, b2⟩ := sFlow_once a1
      refine ⟨h1, ?_, by simp [a3]⟩
      rw [b2]
      conv => lhs; rw [a2]
      show _ = (flowB (sFlow s).1 ++ flowsB _) ++ _
      rw [List.append_assoc]
    · rw [sFlows, if_pos h1] at h; exact absurd h h1
theorem sPlace_once {s : Sg} (h : (sPlace s).2.2 = 0) : s.2 = 0 ∧ s.1 = placeB (sPlace s).1 ++ (sPlace s).2.1 := by
  obtain ⟨f1, f2, f3⟩ := sFlows_once (sN 16 (sM (sN 9 (sT (sO s).2).2).2).2).1 (s := (sN 16 (sM (sN 9 (sT (sO s).2).2).2).2).2) h
  obtain ⟨e1, e2⟩ := sN_once f1
  obtain ⟨d1, d2⟩ := sM_once e1
  obtain ⟨c1, c2⟩ := sN_once d1
  obtain ⟨b1, b2⟩ := sT_once c1
  obtain ⟨a1, a2⟩ := sO_once b1
  refine ⟨a1, ?_⟩
  have hP : (sPlace s) = (⟨(sO s).1, (sT (sO s).2).1, (sN 9 (sT (sO s).2).2).1, (sM (sN 9 (sT (sO s).2).2).2).1, (sFlows (sN 16 (sM (sN 9 (sT (sO s).2).2).2).2).1 (sN 16 (sM (sN 9 (sT (sO s).2).2).2).2).2).1⟩, (sFlows (sN 16 (sM (sN 9 (sT (sO s).2).2).2).2).1 (sN 16 (sM (sN 9 (sT (sO s).2).2).2).2).2).2) := rfl
  rw [hP, placeB]
  dsimp only
  rw [f3, Int.toNat_natCast, Int.toNat_natCast, List.cons_append, List.append_assoc, List.append_assoc, List.append_assoc, List.append_assoc, ← f2, ← e2, ← d2, ← c2, ← b2, ← a2]
theorem sPlaces_once : ∀ (n : Nat) {s : Sg}, (sPlaces n s).2.2 = 0 → s.2 = 0 ∧ s.1 = placesB (sPlaces n s).1 ++ (sPlaces n s).2.1 ∧ (sPlaces n s).1.length = n
  | 0, s, h => ⟨h, rfl, rfl⟩
  | n + 1, s, h => by
    by_cases h1 : s.2 = 0
    · rw [sPlaces_1 n h1] at h ⊢
      obtain ⟨a1, a2, a3⟩ := sPlaces_once n h
      obtain ⟨b1, b2⟩ := sPlace_once a1
      refine ⟨h1, ?_, by simp [a3]⟩
      rw [b2]
      conv => lhs; rw [a2]
      show _ = (placeB (sPlace s).1 ++ placesB _) ++ _
      rw [List.append_assoc]
    · rw [sPlaces_e _ h1] at h; exact absurd h h1
/-- Bytes that are read well are the definition's own, and what is behind. -/
theorem sDef_once {b : List UInt8} (h : (sD3 b).2.2 = 0) : b = defB (sDef b) ++ (sD3 b).2.1 := by
  obtain ⟨c1, c2, c3⟩ := sPlaces_once (sD2 b).1 (s := (sD2 b).2) h
  obtain ⟨b1, b2⟩ := sN_once (s := (sD1 b).2) c1
  obtain ⟨a1, a2⟩ := sT_once (s := (b, 0)) b1
  have hD : sDef b = ⟨(sD1 b).1, (sD3 b).1⟩ := rfl
  rw [hD, defB]
  dsimp only
  have e3 : (sD3 b).1.length = (sD2 b).1 := c3
  have e2 : (sD2 b).2.1 = placesB (sD3 b).1 ++ (sD3 b).2.1 := c2
  have e1 : (sD1 b).2.1 = uintB (sD2 b).1 ++ (sD2 b).2.1 := b2
  have e0 : b = bytesB (sD1 b).1 ++ (sD1 b).2.1 := a2
  rw [e3, List.append_assoc, List.append_assoc, ← e2, ← e1]; exact e0
theorem readD_once {b : List UInt8} (h : (readD b).2 = 0) : b = defB (readD b).1 ∧ checkD (readD b).1 = 0 := by
  by_cases h1 : (sD3 b).2.2 = 0
  · by_cases h2 : 0 < (sD3 b).2.1.length
    · rw [readD_3 h1 h2] at h; cases h
    · by_cases h3 : checkD (sDef b) = 0
      · rw [readD_0 h1 h2 h3]
        refine ⟨?_, h3⟩
        have := sDef_once h1
        rw [List.eq_nil_of_length_eq_zero (l := (sD3 b).2.1) (by omega), List.append_nil] at this
        exact this
      · rw [readD_c h1 h2 h3] at h; exact absurd h h3
  · rw [readD_e h1] at h; exact absurd h h1
theorem readD_D0 {b : List UInt8} (h : (readD b).2 ≠ 0) : (readD b).1 = D0 := by
  by_cases h1 : (sD3 b).2.2 = 0
  · by_cases h2 : 0 < (sD3 b).2.1.length
    · rw [readD_3 h1 h2]
    · by_cases h3 : checkD (sDef b) = 0
      · rw [readD_0 h1 h2 h3] at h; exact absurd rfl h
      · rw [readD_c h1 h2 h3]
  · rw [readD_e h1]
end Go.RxTree
end
