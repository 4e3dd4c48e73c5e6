/- Numbers as bytes: plain facts on words. -/
import Derived.Test.YtahnmikdpclbfaaRxJc
import Derived.Laws.BitsLemmas
import Derived.Laws.Bits64
set_option linter.unusedVariables false
set_option linter.unusedSimpArgs false
namespace Go.RxTree
open Go Go.Rx
theorem wraps_u64w (n : Int) (h₀ : 0 ≤ n) (h₁ : n < 2 ^ 64) : IntKind.u64.wrap n = n := Go.Rx.wrap_u64 h₀ (by omega)
set_option maxRecDepth 100000 in
theorem or128 {x : Int} (h0 : 0 ≤ x) (h1 : x < 256) : bits .or .u8 x 128 = x % 128 + 128 := by
  obtain ⟨a, rfl⟩ := Int.eq_ofNat_of_zero_le h0
  have ha : a < 256 := by omega
  have h := (bits_nat .u8 8 (by decide) wraps_u8 a 128 ha (by decide)).2
  have key : ∀ a : Nat, a < 256 → a ||| 128 = a % 128 + 128 := by decide
  rw [key a ha] at h
  rw [show ((128 : Int)) = ((128 : Nat) : Int) from rfl, h]
  omega
theorem and127 {x : Int} (h0 : 0 ≤ x) (h1 : x < 18446744073709551616) : bits .and .u64 x 127 = x % 128 :=
  bits_mask .u64 64 (by decide) wraps_u64w 7 (by decide) x h0 h1
theorem and1 {x : Int} (h0 : 0 ≤ x) (h1 : x < 18446744073709551616) : bits .and .u64 x 1 = x % 2 :=
  bits_mask .u64 64 (by decide) wraps_u64w 1 (by decide) x h0 h1
theorem or_join {x y : Int} (i : Nat) (hx₀ : 0 ≤ x) (hx : x % 2 ^ i = 0) (hx₁ : x < 2 ^ 64) (hy₀ : 0 ≤ y) (hy : y < 2 ^ i) (hy₁ : y < 2 ^ 64) : bits .or .u64 y x = y + x := by
  have h := bits_join .u64 64 (by decide) wraps_u64w i x y hx₀ hx hx₁ hy₀ hy hy₁
  obtain ⟨a, rfl⟩ := Int.eq_ofNat_of_zero_le hx₀
  obtain ⟨b, rfl⟩ := Int.eq_ofNat_of_zero_le hy₀
  have h1 := (bits_nat .u64 64 (by decide) wraps_u64w a b (by omega) (by omega)).2
  have h2 := (bits_nat .u64 64 (by decide) wraps_u64w b a (by omega) (by omega)).2
  rw [Nat.or_comm] at h2
  rw [h2, ← h1, h]; omega
/-- Seven bits a byte, the lowest first. -/
def uintB (n : Nat) : List UInt8 := if h : n < 128 then [UInt8.ofNat n] else UInt8.ofNat (n % 128 + 128) :: uintB (n / 128)
termination_by n
decreasing_by omega
theorem uintB_0 {n : Nat} (h : n < 128) : uintB n = [UInt8.ofNat n] := by rw [uintB, dif_pos h]
theorem uintB_1 {n : Nat} (h : ¬n < 128) : uintB n = UInt8.ofNat (n % 128 + 128) :: uintB (n / 128) := by rw [uintB, dif_neg h]
theorem uintB_len : ∀ (m n : Nat), n < 128 ^ (m + 1) → (uintB n).length ≤ m + 1
  | 0, n, h => by rw [uintB_0 (by omega)]; simp
  | m + 1, n, h => by
    by_cases h1 : n < 128
    · rw [uintB_0 h1]; simp
    · rw [uintB_1 h1, List.length_cons]
      have := uintB_len m (n / 128) (by rw [Nat.pow_succ] at h; omega)
      omega
theorem uintB_len10 {n : Nat} (h : n < 18446744073709551616) : (uintB n).length ≤ 10 := uintB_len 9 n (by omega)
theorem u8_cell {n : Nat} (h : n < 256) : ((UInt8.ofNat n).toNat : Int) = (n : Int) := by
  simp; omega
/-- Numbers that may be below 0, as numbers. -/
def zig (n : Int) : Nat := if 0 ≤ n then (2 * n).toNat else (-2 * n - 1).toNat
def zag (n : Nat) : Int := if n % 2 = 0 then (n / 2 : Nat) else -((n / 2 : Nat) : Int) - 1
theorem zag_zig (n : Int) : zag (zig n) = n := by
  unfold zig zag
  split <;> (split <;> omega)
theorem zig_zag (n : Nat) : zig (zag n) = n := by
  unfold zig zag
  split <;> (split <;> omega)
end Go.RxTree
namespace Go.RxTree
open Go Go.Rx
def uintP (n : Nat) : List UInt8 := if h : n < 128 then [] else UInt8.ofNat (n % 128 + 128) :: uintP (n / 128)
termination_by n
decreasing_by omega
def uintQ (n : Nat) : Nat := if h : n < 128 then n else uintQ (n / 128)
termination_by n
decreasing_by omega
theorem uintP_0 {n : Nat} (h : n < 128) : uintP n = [] := by rw [uintP, dif_pos h]
theorem uintP_1 {n : Nat} (h : ¬n < 128) : uintP n = UInt8.ofNat (n % 128 + 128) :: uintP (n / 128) := by rw [uintP, dif_neg h]
theorem uintQ_0 {n : Nat} (h : n < 128) : uintQ n = n := by rw [uintQ, dif_pos h]
theorem uintQ_1 {n : Nat} (h : ¬n < 128) : uintQ n = uintQ (n / 128) := by rw [uintQ, dif_neg h]
theorem uintPQ : ∀ (m n : Nat), n < 128 ^ (m + 1) → uintB n = uintP n ++ [UInt8.ofNat (uintQ n)] ∧ uintQ n < 128 ∧ (uintP n).length ≤ m
  | 0, n, h => by rw [uintB_0 (by omega), uintP_0 (by omega), uintQ_0 (by omega)]; exact ⟨rfl, by omega, by simp⟩
  | m + 1, n, h => by
    by_cases h1 : n < 128
    · rw [uintB_0 h1, uintP_0 h1, uintQ_0 h1]; exact ⟨rfl, h1, by simp⟩
    · have := uintPQ m (n / 128) (by rw [Nat.pow_succ] at h; omega)
      rw [uintB_1 h1, uintP_1 h1, uintQ_1 h1]
      exact ⟨by rw [this.1]; rfl, this.2.1, by simp only [List.length_cons]; omega⟩
theorem shr7 {z : Int} {n : Nat} (h : z = (n : Int)) : z.fdiv (2 ^ (min (7 : Int).toNat IntKind.u64.bits)) = ((n / 128 : Nat) : Int) := by
  subst h
  have e : (2 : Int) ^ (min (7 : Int).toNat IntKind.u64.bits) = 128 := by decide
  rw [e, Int.fdiv_eq_ediv_of_nonneg _ (by omega)]; omega
theorem quo128 {z : Int} {n : Nat} (h : z = (n : Int)) (hn : n < 18446744073709551616) : IntKind.u64.wrap (z.tdiv 128) = ((n / 128 : Nat) : Int) := by
  subst h
  rw [Int.tdiv_eq_ediv_of_nonneg (by omega), Go.Rx.wrap_u64 (by omega) (by omega)]; omega
theorem lowB {z : Int} {n : Nat} (h : z = (n : Int)) : IntKind.u8.wrap z = ((n % 256 : Nat) : Int) := by
  subst h; rw [Go.IntKind.wrap_u8]; omega
theorem contB {z : Int} {n : Nat} (h : z = (n : Int)) : bits .or .u8 (IntKind.u8.wrap z) 128 = ((UInt8.ofNat (n % 128 + 128)).toNat : Int) := by
  rw [lowB h, or128 (by omega) (by omega), u8_cell (by omega)]; omega
theorem contB2 {z : Int} {n : Nat} (h : z = (n : Int)) : IntKind.u8.wrap (IntKind.u64.wrap (128 + z.tmod 128)) = ((UInt8.ofNat (n % 128 + 128)).toNat : Int) := by
  subst h
  rw [Int.tmod_eq_emod_of_nonneg (by omega), Go.Rx.wrap_u64 (by omega) (by omega), Go.IntKind.wrap_u8, u8_cell (by omega)]; omega
theorem lastB {z : Int} {n : Nat} (h : z = (n : Int)) (hn : n < 128) : IntKind.u8.wrap z = ((UInt8.ofNat n).toNat : Int) := by
  rw [lowB h, u8_cell (by omega)]; omega
end Go.RxTree
namespace Go.RxTree
open Go Go.Rx
theorem xor_ones {a : Nat} (h : a < 18446744073709551616) : a ^^^ 18446744073709551615 = 18446744073709551615 - a := by
  have e := BitVec.toNat_not (x := BitVec.ofNat 64 a)
  have e2 : (BitVec.ofNat 64 a ^^^ BitVec.allOnes 64).toNat = a ^^^ 18446744073709551615 := by
    rw [BitVec.toNat_xor, BitVec.toNat_ofNat, BitVec.toNat_allOnes, Nat.mod_eq_of_lt (by omega)]
  have e3 : BitVec.ofNat 64 a ^^^ BitVec.allOnes 64 = ~~~ (BitVec.ofNat 64 a) := by
    rw [BitVec.xor_allOnes]
  rw [e3, e, BitVec.toNat_ofNat, Nat.mod_eq_of_lt (by omega)] at e2
  omega
theorem zig_x {n : Int} (h0 : -9223372036854775808 ≤ n) (h1 : n ≤ 9223372036854775807) :
    bits .xor .u64 (IntKind.u64.wrap (IntKind.u64.wrap n * 2 ^ (min (1 : Int).toNat IntKind.u64.bits))) (IntKind.u64.wrap (n.fdiv (2 ^ (min (63 : Int).toNat IntKind.i64.bits)))) = ((zig n : Nat) : Int) := by
  have e1 : (2 : Int) ^ (min (1 : Int).toNat IntKind.u64.bits) = 2 := by decide
  have e2 : (2 : Int) ^ (min (63 : Int).toNat IntKind.i64.bits) = 9223372036854775808 := by decide
  rw [e1, e2, Go.IntKind.wrap_u64, Go.IntKind.wrap_u64, Go.IntKind.wrap_u64, Int.fdiv_eq_ediv_of_nonneg _ (by omega)]
  unfold zig
  by_cases h : 0 ≤ n
  · rw [if_pos h]
    obtain ⟨a, rfl⟩ := Int.eq_ofNat_of_zero_le h
    have q : ((a : Int) / 9223372036854775808) % 18446744073709551616 = ((0 : Nat) : Int) := by omega
    have p : ((a : Int) % 18446744073709551616 * 2) % 18446744073709551616 = ((2 * a : Nat) : Int) := by omega
    rw [q, p, Go.bits_xor_u64_nat _ _ (by omega) (by omega), Nat.xor_zero]
    omega
  · rw [if_neg h]
    have q : (n / 9223372036854775808) % 18446744073709551616 = ((18446744073709551615 : Nat) : Int) := by omega
    obtain ⟨a, ha⟩ : ∃ a : Nat, (a : Int) = 18446744073709551616 + 2 * n := ⟨(18446744073709551616 + 2 * n).toNat, by omega⟩
    have p : (n % 18446744073709551616 * 2) % 18446744073709551616 = ((a : Nat) : Int) := by omega
    rw [q, p, Go.bits_xor_u64_nat _ _ (by omega) (by omega), xor_ones (by omega)]
    omega
theorem zig_lt {n : Int} (h0 : -9223372036854775808 ≤ n) (h1 : n ≤ 9223372036854775807) : zig n < 18446744073709551616 := by
  unfold zig; split <;> omega
theorem zig_p {n : Int} (h0 : 0 ≤ n) (h1 : n ≤ 9223372036854775807) : IntKind.u64.wrap (IntKind.u64.wrap n * 2) = ((zig n : Nat) : Int) := by
  rw [Go.IntKind.wrap_u64, Go.IntKind.wrap_u64]; unfold zig; rw [if_pos h0]; omega
theorem zig_n {n : Int} (h0 : -9223372036854775808 ≤ n) (h1 : ¬ 0 ≤ n) : IntKind.u64.wrap (IntKind.u64.wrap (IntKind.u64.wrap (IntKind.i64.wrap (0 - IntKind.i64.wrap (n + 1))) * 2) + 1) = ((zig n : Nat) : Int) := by
  have e1 : IntKind.i64.wrap (n + 1) = n + 1 := Go.Rx.wrap_i64 (by omega) (by omega)
  have e2 : IntKind.i64.wrap (0 - (n + 1)) = 0 - (n + 1) := Go.Rx.wrap_i64 (by omega) (by omega)
  rw [e1, e2, Go.IntKind.wrap_u64, Go.IntKind.wrap_u64, Go.IntKind.wrap_u64]; unfold zig; rw [if_neg h1]; omega
/-- Back: the number off its word. -/
theorem xor_m1 {x : Int} (h0 : 0 ≤ x) (h1 : x ≤ 9223372036854775807) : bits .xor .i64 x (-1) = -x - 1 := by
  obtain ⟨a, rfl⟩ := Int.eq_ofNat_of_zero_le h0
  show IntKind.i64.wrap ((BitVec.ofInt 64 (a : Int) ^^^ BitVec.ofInt 64 (-1)).toNat : Int) = _
  have e : BitVec.ofInt 64 (-1) = BitVec.allOnes 64 := by decide
  rw [e, BitVec.xor_allOnes, BitVec.toNat_not, BitVec.ofInt_natCast, BitVec.toNat_ofNat, Nat.mod_eq_of_lt (by omega), Go.IntKind.wrap_i64]
  omega
theorem xor_0 {x : Int} (h0 : 0 ≤ x) (h1 : x ≤ 9223372036854775807) : bits .xor .i64 x 0 = x := by
  obtain ⟨a, rfl⟩ := Int.eq_ofNat_of_zero_le h0
  show IntKind.i64.wrap ((BitVec.ofInt 64 (a : Int) ^^^ BitVec.ofInt 64 0).toNat : Int) = _
  have e : BitVec.ofInt 64 0 = 0#64 := by decide
  rw [e, BitVec.xor_zero, BitVec.ofInt_natCast, BitVec.toNat_ofNat, Nat.mod_eq_of_lt (by omega), Go.IntKind.wrap_i64]
  omega
end Go.RxTree
