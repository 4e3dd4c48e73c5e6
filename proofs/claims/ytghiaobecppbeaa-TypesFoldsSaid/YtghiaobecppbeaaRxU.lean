/- Rx, part 21: operations on open data, each as one equation. -/
import Derived.Test.YtghiaobecppbeaaRxT
namespace Go.Rx
open Go Go.RowKit
set_option linter.unusedVariables false
set_option linter.unusedSimpArgs false

/-- A step that comes to a truth: both ways. -/
theorem nextK_b {R : Type} {x : Option (Res × Hp)} {b : Bool} {H : Hp} {K : Res × Hp → Option R} {r : Option R} (h : x = some (.ret (.d (.bool b)), H)) (h1 : b = true → K (.ret (.d (.bool true)), H) = r) (h2 : b = false → K (.ret (.d (.bool false)), H) = r) : nextK x K = r := by
  subst h; cases b
  · exact h2 rfl
  · exact h1 rfl
/-- A step whose end depends on a test. -/
theorem nextK_ite {R α : Type} {x A B : Option α} {c : Bool} {K : α → Option R} {r : Option R} (h : x = iteK c A B) (h1 : iteK c (nextK A K) (nextK B K) = r) : nextK x K = r := by
  subst h; cases c <;> exact h1
section
variable {R : Type} {A B r : Option R}
theorem iteK_dec {p : Prop} {inst : Decidable p} (h1 : p → A = r) (h2 : ¬p → B = r) : iteK (@decide p inst) A B = r := by
  by_cases h : p
  · rw [decide_eq_true h]; exact h1 h
  · rw [decide_eq_false h]; exact h2 h
theorem iteK_beq {α : Type} [BEq α] [LawfulBEq α] {x y : α} (h1 : x = y → A = r) (h2 : x ≠ y → B = r) : iteK (x == y) A B = r := by
  cases h : (x == y)
  · exact h2 (fun e => by rw [beq_iff_eq.2 e] at h; cases h)
  · exact h1 (beq_iff_eq.1 h)
theorem iteK_bne {α : Type} [BEq α] [LawfulBEq α] {x y : α} (h1 : x ≠ y → A = r) (h2 : x = y → B = r) : iteK (x != y) A B = r := by
  unfold bne
  cases h : (x == y)
  · exact h1 (fun e => by rw [beq_iff_eq.2 e] at h; cases h)
  · exact h2 (beq_iff_eq.1 h)
theorem iteK_not {c : Bool} (h : iteK c B A = r) : iteK (!c) A B = r := by cases c <;> exact h
theorem dec_t {p : Prop} {inst : Decidable p} (h : p) : @decide p inst = true := decide_eq_true h
theorem dec_f {p : Prop} {inst : Decidable p} (h : ¬p) : @decide p inst = false := decide_eq_false h
theorem beq_t {α : Type} [BEq α] [LawfulBEq α] {x y : α} (h : x = y) : (x == y) = true := beq_iff_eq.2 h
theorem beq_f {α : Type} [BEq α] [LawfulBEq α] {x y : α} (h : x ≠ y) : (x == y) = false := by
  cases e : (x == y)
  · rfl
  · exact absurd (beq_iff_eq.1 e) h
theorem bne_t {α : Type} [BEq α] [LawfulBEq α] {x y : α} (h : x ≠ y) : (x != y) = true := by rw [bne, beq_f h]; rfl
theorem bne_f {α : Type} [BEq α] [LawfulBEq α] {x y : α} (h : x = y) : (x != y) = false := by rw [bne, beq_t h]; rfl
theorem iteK_dec_t {p : Prop} {inst : Decidable p} (h : p) (h1 : A = r) : iteK (@decide p inst) A B = r := iteK_t (dec_t h) h1
theorem iteK_dec_f {p : Prop} {inst : Decidable p} (h : ¬p) (h1 : B = r) : iteK (@decide p inst) A B = r := iteK_f (dec_f h) h1
theorem iteK_beq_t {α : Type} [BEq α] [LawfulBEq α] {x y : α} (h : x = y) (h1 : A = r) : iteK (x == y) A B = r := iteK_t (beq_t h) h1
theorem iteK_beq_f {α : Type} [BEq α] [LawfulBEq α] {x y : α} (h : x ≠ y) (h1 : B = r) : iteK (x == y) A B = r := iteK_f (beq_f h) h1
theorem iteK_bne_t {α : Type} [BEq α] [LawfulBEq α] {x y : α} (h : x ≠ y) (h1 : A = r) : iteK (x != y) A B = r := iteK_t (bne_t h) h1
theorem iteK_bne_f {α : Type} [BEq α] [LawfulBEq α] {x y : α} (h : x = y) (h1 : B = r) : iteK (x != y) A B = r := iteK_f (bne_f h) h1
end
theorem ret_b {a b : Bool} {H : Hp} (h : a = b) : some (Res.ret (.d (.bool a)), H) = some (Res.ret (.d (.bool b)), H) := by rw [h]
theorem ret_i {k : IntKind} {a b : Int} {H : Hp} (h : a = b) : some (Res.ret (.d (.int k a)), H) = some (Res.ret (.d (.int k b)), H) := by rw [h]
/-- Bytes as cells. -/
def bL (s : List UInt8) : List (List D) := s.map fun b => [.int .u8 b.toNat]
theorem bL_len (s : List UInt8) : (bL s).length = s.length := by simp [bL]
theorem bL_get {s : List UInt8} {i : Nat} {b : UInt8} (h : s[i]? = some b) : (bL s)[i]? = some [.int .u8 b.toNat] := by simp [bL, h]
theorem bL_take (s : List UInt8) (n : Nat) : (bL s).take n = bL (s.take n) := by simp [bL]
theorem bL_drop (s : List UInt8) (n : Nat) : (bL s).drop n = bL (s.drop n) := by simp [bL]
theorem bL_app (s t : List UInt8) : bL s ++ bL t = bL (s ++ t) := by simp [bL]
theorem bL_all (s : List UInt8) : (bL s).all (fun y => y.length == 1) = true := by simp [bL]
theorem bL_nil : bL [] = [] := rfl
theorem bytesOf_bL : ∀ s : List UInt8, bytesOf (bL s) = some s
  | [] => rfl
  | b :: s => by
    have := bytesOf_bL s
    simp only [bL, List.map_cons] at this ⊢
    simp only [bytesOf, this, Option.map_some]
    simp

theorem aop_bytes {P : Program} {dst : Nat} {ρ : Operand → AV} {H : Hp} {a b e : TypeId} {x : Operand} {s : List UInt8} (hx : ρ x = .d (.str s)) (ha : P.underlying a = some .string) (hb : P.underlying b = some (.slice e)) (he : P.underlying e = some (.int .u8)) (hl : s.length ≤ lim) :
    aop P dst ρ H (.convert a b x) = some (.d (.list (bL s)), H) := by
  simp only [aop, aConvert, hx, ha, hb, he, if_pos hl, Option.map_some, bL]
theorem aop_text {P : Program} {dst : Nat} {ρ : Operand → AV} {H : Hp} {a b e : TypeId} {x : Operand} {s : List UInt8} (hx : ρ x = .d (.list (bL s))) (ha : P.underlying a = some (.slice e)) (hb : P.underlying b = some .string) (he : P.underlying e = some (.int .u8)) :
    aop P dst ρ H (.convert a b x) = some (.d (.str s), H) := by
  simp only [aop, aConvert, hx, ha, hb, he, srcOf, Option.bind_some, bytesOf_bL, Option.map_some]
/-- A part of a row. -/
theorem aop_slice {P : Program} {dst : Nat} {ρ : Operand → AV} {H : Hp} {t e : TypeId} {x : Operand} {lo hi mx : Option Operand} {es : List (List D)} {s a b : Nat} {l h m : Option Int} (hx : ρ x = .d (.list es)) (ht : P.underlying t = some (.slice e)) (hs : sizeT P e = some s)
    (hl : intV (lo.map ρ) = some l) (hh : intV (hi.map ρ) = some h) (hm : intV (mx.map ρ) = some m) (hall : es.all (fun y => y.length == s) = true) (hb : bnds es.length l h m = some (a, b)) :
    aop P dst ρ H (.slice t x lo hi mx) = some (.d (.list ((es.take b).drop a)), H) := by
  simp only [aop, aSlice, hl, hh, hm, ht, hx, Option.bind_some, sliceL, hs, partL, hall, if_true, hb, Option.map_some]
theorem aop_sliceB {P : Program} {dst : Nat} {ρ : Operand → AV} {H : Hp} {t e : TypeId} {x : Operand} {lo hi mx : Option Operand} {z : List UInt8} {a b : Nat} {l h m : Option Int} (hx : ρ x = .d (.list (bL z))) (ht : P.underlying t = some (.slice e)) (hs : sizeT P e = some 1)
    (hl : intV (lo.map ρ) = some l) (hh : intV (hi.map ρ) = some h) (hm : intV (mx.map ρ) = some m) (hb : bnds z.length l h m = some (a, b)) :
    aop P dst ρ H (.slice t x lo hi mx) = some (.d (.list (bL ((z.take b).drop a))), H) := by
  rw [aop_slice (a := a) (b := b) hx ht hs hl hh hm (bL_all z) (by rw [bL_len]; exact hb), bL_take, bL_drop]
theorem bnds_from {n a : Nat} {z : Int} (hz : z = (a : Int)) (h : a ≤ n) : bnds n (some z) none none = some (a, n) := by
  subst hz; unfold bnds; rw [if_pos (by simp; omega)]; simp
theorem bnds_to {n b : Nat} {z : Int} (hz : z = (b : Int)) (h : b ≤ n) : bnds n none (some z) none = some (0, b) := by
  subst hz; unfold bnds; rw [if_pos (by simp; omega)]; simp
theorem bnds_cap {n b : Nat} {z w : Int} (hz : z = (b : Int)) (hw : w = (b : Int)) (h : b ≤ n) : bnds n none (some z) (some w) = some (0, b) := by
  subst hz hw; unfold bnds; rw [if_pos (by simp; omega)]; simp
theorem bnds_in {n a b : Nat} {z w : Int} (hz : z = (a : Int)) (hw : w = (b : Int)) (h1 : a ≤ b) (h : b ≤ n) : bnds n (some z) (some w) none = some (a, b) := by
  subst hz hw; unfold bnds; rw [if_pos (by simp; omega)]; simp
/-- A part of a text. -/
theorem aop_part {P : Program} {dst : Nat} {ρ : Operand → AV} {H : Hp} {t : TypeId} {x : Operand} {lo hi : Option Operand} {s : List UInt8} {a b : Nat} {l h : Option Int} (hx : ρ x = .d (.str s)) (ht : P.underlying t = some .string)
    (hl : intV (lo.map ρ) = some l) (hh : intV (hi.map ρ) = some h) (hb : bnds s.length l h none = some (a, b)) :
    aop P dst ρ H (.slice t x lo hi none) = some (.d (.str ((s.take b).drop a)), H) := by
  have hm : intV (Option.map ρ none) = some none := rfl
  simp only [aop, aSlice, hl, hh, hm, ht, hx, Option.bind_some, hb, Option.map_some, Option.isSome_none, Bool.false_eq_true, if_false]
theorem ixS_at' {s : List UInt8} {b : UInt8} {n : Nat} {z : Int} (hz : z = (n : Int)) (h : s[n]? = some b) : ixS s z = some (.d (.int .u8 b.toNat)) := by subst hz; exact ixS_at h
theorem wrap_i64 {n : Int} (h : -9223372036854775808 ≤ n) (h2 : n ≤ 9223372036854775807) : IntKind.i64.wrap n = n := by
  simp only [IntKind.wrap, IntKind.bits, IntKind.signed, Bool.true_and, decide_eq_true_eq, Nat.reduceSub, Int.reducePow, ge_iff_le]
  split <;> omega
theorem wrap_u64 {n : Int} (h : 0 ≤ n) (h2 : n ≤ 18446744073709551615) : IntKind.u64.wrap n = n := by
  simp only [IntKind.wrap, IntKind.bits, IntKind.signed, Bool.false_and, Bool.false_eq_true, if_false, Int.reducePow]
  omega
theorem wrap_u8 {n : Int} (h : 0 ≤ n) (h2 : n ≤ 255) : IntKind.u8.wrap n = n := by
  simp only [IntKind.wrap, IntKind.bits, IntKind.signed, Bool.false_and, Bool.false_eq_true, if_false, Int.reducePow]
  omega
theorem wf_i64 {n : Int} : (Lit.int .i64 n).wf = true ↔ -9223372036854775808 ≤ n ∧ n ≤ 9223372036854775807 := by
  simp [Lit.wf, IntKind.min, IntKind.max, IntKind.bits, IntKind.signed]
theorem wf_u64 {n : Int} : (Lit.int .u64 n).wf = true ↔ 0 ≤ n ∧ n ≤ 18446744073709551615 := by
  simp [Lit.wf, IntKind.min, IntKind.max, IntKind.bits, IntKind.signed]
theorem wf_u8 {n : Int} : (Lit.int .u8 n).wf = true ↔ 0 ≤ n ∧ n ≤ 255 := by
  simp [Lit.wf, IntKind.min, IntKind.max, IntKind.bits, IntKind.signed]
/-- Two texts, one behind the other. -/
theorem aop_add {P : Program} {dst : Nat} {ρ : Operand → AV} {H : Hp} {t u : TypeId} {x y : Operand} {a b : List UInt8} (hx : ρ x = .d (.str a)) (hy : ρ y = .d (.str b)) (h : a.length + b.length ≤ lim) :
    aop P dst ρ H (.binOp .add t x y u) = some (.d (.str (a ++ b)), H) := by
  simp only [aop, aBin, hx, hy, bStr, addS_at h, Option.map_some]
end Go.Rx
