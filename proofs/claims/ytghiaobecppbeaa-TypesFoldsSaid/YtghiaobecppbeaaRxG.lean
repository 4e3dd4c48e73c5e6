/- Rx, part 7: sums, tests, conversions, parts. -/
import Derived.Test.YtghiaobecppbeaaRxF
import Derived.Laws.StructEq
import Derived.Laws.BytesArg
import Derived.Laws.Slices
import Derived.Laws.Concat
namespace Go.Rx
open Go Go.RowKit
set_option linter.unusedVariables false
set_option linter.unusedSimpArgs false

def bInt (op : BinOp) (k : IntKind) (a b : Int) : Option D :=
  match op with
  | .add => some (.int k (k.wrap (a + b)))
  | .sub => some (.int k (k.wrap (a - b)))
  | .mul => some (.int k (k.wrap (a * b)))
  | .quo => if b = 0 then none else some (.int k (k.wrap (a.tdiv b)))
  | .rem => if b = 0 then none else some (.int k (a.tmod b))
  | .and => some (.int k (Go.bits .and k a b))
  | .or => some (.int k (Go.bits .or k a b))
  | .xor => some (.int k (Go.bits .xor k a b))
  | .andNot => some (.int k (Go.bits .andNot k a b))
  | .eql => some (.bool (a == b))
  | .neq => some (.bool (a != b))
  | .lss => some (.bool (decide (a < b)))
  | .leq => some (.bool (decide (a ≤ b)))
  | .gtr => some (.bool (decide (a > b)))
  | .geq => some (.bool (decide (a ≥ b)))
  | _ => none
def bShift (op : BinOp) (k : IntKind) (a b : Int) : Option D :=
  if b < 0 then none else match op with
  | .shl => some (.int k (k.wrap (a * 2 ^ (min b.toNat k.bits))))
  | .shr => some (.int k (a.fdiv (2 ^ (min b.toNat k.bits))))
  | _ => none
/-- Two texts, one behind the other. -/
def addS (a b : List UInt8) : Option D := if a.length + b.length ≤ lim then some (.str (a ++ b)) else none
theorem addS_at {a b : List UInt8} (h : a.length + b.length ≤ lim) : addS a b = some (.str (a ++ b)) := by unfold addS; rw [if_pos h]
def bStr (op : BinOp) (a b : List UInt8) : Option D :=
  match op with
  | .add => addS a b
  | .eql => some (.bool (a == b))
  | .neq => some (.bool (!(a == b)))
  | .lss => some (.bool (Op.bytesLess a b))
  | .leq => some (.bool (Op.bytesLess a b || a == b))
  | .gtr => some (.bool (!(Op.bytesLess a b || a == b)))
  | .geq => some (.bool (!(Op.bytesLess a b)))
  | _ => none
def bBool (op : BinOp) (a b : Bool) : Option D :=
  match op with
  | .eql => some (.bool (a == b))
  | .neq => some (.bool (!(a == b)))
  | _ => none
/-- Two parts of a type that is compared at once. -/
def eq1 (P : Program) (t : TypeId) (x y : D) : Option Bool :=
  match P.underlying t, x, y with
  | some .bool, .bool a, .bool b => some (a == b)
  | some (.int _), .int k a, .int k' b => if k = k' then some (a == b) else none
  | some .string, .str a, .str b => some (a == b)
  | _, _, _ => none
def eqFs (P : Program) (xs ys : List AV) : List Field → Option Bool
  | [] => some true
  | f :: fs => if f.name = "_" then none else match aggT P f.type, xs[f.offset]?, ys[f.offset]? with
    | some false, some (.d x), some (.d y) => (eq1 P f.type x y).bind fun b => (eqFs P xs ys fs).map fun c => b && c
    | _, _, _ => none
def eqSt (P : Program) (t : TypeId) (xs ys : List AV) : Option Bool :=
  match P.underlying t with
  | some (.struct fs) => if P.stoodInHeld t = false ∧ P.eqGuardType P.depth t = false then eqFs P xs ys fs.toList else none
  | _ => none
def isNil (P : Program) (op : BinOp) (t : TypeId) (x y : AV) : Option D :=
  match P.underlying t, op, x, y with
  | some (.pointer _), .eql, .ptr _ _, .d .nilp => some (.bool false)
  | some (.pointer _), .neq, .ptr _ _, .d .nilp => some (.bool true)
  | _, _, _, _ => none

def aBin (P : Program) (op : BinOp) (t : TypeId) (x y : AV) : Option AV :=
  match x, y with
  | .d (.int k a), .d (.int k' b) => if op = .shl ∨ op = .shr then (bShift op k a b).map .d else if k = k' then (bInt op k a b).map .d else none
  | .d (.str a), .d (.str b) => (bStr op a b).map .d
  | .d (.bool a), .d (.bool b) => match P.underlying t with
    | some .bool => (bBool op a b).map .d
    | _ => none
  | .agg xs, .agg ys => match op with
    | .eql => (eqSt P t xs ys).map fun b => .d (.bool b)
    | .neq => (eqSt P t xs ys).map fun b => .d (.bool (!b))
    | _ => none
  | x, y => (isNil P op t x y).map .d

theorem rep_bool {w : World} {S : Nat → Prop} {v : Value} {b : Bool} (h : Rep w S v (.bool b)) : v = .bool b := by cases h; rfl
theorem rep_int {w : World} {S : Nat → Prop} {v : Value} {k : IntKind} {n : Int} (h : Rep w S v (.int k n)) : v = .int k n := by cases h; rfl
theorem rep_str {w : World} {S : Nat → Prop} {v : Value} {s : List UInt8} (h : Rep w S v (.str s)) : ∃ b : ByteArray, v = .string b ∧ b.data.toList = s := by cases h; exact ⟨_, rfl, rfl⟩
theorem rv_d {E : En} {v : Value} {x : D} (h : RV E v (.d x)) : Rep E.w E.S v x := by cases h; assumption

theorem bInt_ok {P : Program} {E : En} {op : BinOp} {t : TypeId} {x y : Operand} {k : IntKind} {a b : Int} {r : D} (hne : ¬ (op = .shl ∨ op = .shr)) (h : bInt op k a b = some r) :
    OpQ P E (do eqGuard op t x y (.int k a) (.int k b); binOp op t (.int k a) (.int k b)) (.d r) := by
  unfold bInt at h
  split at h <;> first
    | (injection h with h; subst h; refine ⟨_, ?_, .d _ _ (by first | exact .int _ _ | exact .bool _)⟩; simp [eqGuard_at_int, binOp, Op.intArith, Op.intCmp, intBits_and, intBits_or, intBits_xor, intBits_andNot]; done)
    | (split at h
       · cases h
       · rename_i hb; injection h with h; subst h; refine ⟨_, ?_, .d _ _ (.int _ _)⟩; simp [eqGuard_at_int, binOp, Op.intDiv, hb])
    | cases h
theorem bShift_ok {P : Program} {E : En} {op : BinOp} {t : TypeId} {x y : Operand} {k k' : IntKind} {a b : Int} {r : D} (h : bShift op k a b = some r) :
    OpQ P E (do eqGuard op t x y (.int k a) (.int k' b); binOp op t (.int k a) (.int k' b)) (.d r) := by
  unfold bShift at h
  split at h
  · cases h
  · rename_i hb
    split at h
    · injection h with h; subst h; refine ⟨_, ?_, .d _ _ (.int _ _)⟩; simp [eqGuard_at_int, binOp, Op.shift, hb]
    · injection h with h; subst h; refine ⟨_, ?_, .d _ _ (.int _ _)⟩; simp [eqGuard_at_int, binOp, Op.shift, hb]
    · cases h
theorem bStr_ok {P : Program} {E : En} {op : BinOp} {t : TypeId} {x y : Operand} {a b : ByteArray} {r : D} (h : bStr op a.data.toList b.data.toList = some r) :
    OpQ P E (do eqGuard op t x y (.string a) (.string b); binOp op t (.string a) (.string b)) (.d r) := by
  unfold bStr at h
  split at h
  · unfold addS at h
    split at h
    · rename_i hl
      injection h with h; subst h
      refine ⟨.string (a ++ b), ?_, .d _ _ ?_⟩
      · have := run_string_add_sum (P := P) (w := E.w) a b (by unfold lim at hl; have e1 : a.data.toList.length = a.size := rfl; have e2 : b.data.toList.length = b.size := rfl; omega)
        simp [eqGuard_at_string, binOp, this]
      · have e : (a ++ b).data.toList = a.data.toList ++ b.data.toList := by simp
        rw [← e]; exact .str _
    · cases h
  all_goals first
    | (injection h with h; subst h; refine ⟨_, ?_, .d _ _ (.bool _)⟩; simp [eqGuard_at_string, binOp, Op.stringOp, ByteArray.toList_eq]; done)
    | cases h
theorem bBool_ok {P : Program} {E : En} {op : BinOp} {t : TypeId} {x y : Operand} {a b : Bool} {r : D} (ht : P.underlying t = some .bool) (h : bBool op a b = some r) :
    OpQ P E (do eqGuard op t x y (.bool a) (.bool b); binOp op t (.bool a) (.bool b)) (.d r) := by
  have key : (Op.equal t (.bool a) (.bool b)).run P E.w = .ok (a == b) E.w := run_equalIn_bool' E.w 9999 t a b ht
  unfold bBool at h
  split at h
  · injection h with h; subst h; refine ⟨.bool (a == b), ?_, .d _ _ (.bool _)⟩
    rw [eqGuard_at_bool, Sem.run_bind, Sem.run_pure, Result.andThen_ok]
    show (Op.equal t (.bool a) (.bool b) >>= fun r => (pure (Value.bool r) : Sem Value)).run P E.w = _
    rw [Sem.run_bind, key]; rfl
  · injection h with h; subst h; refine ⟨.bool (!(a == b)), ?_, .d _ _ (.bool _)⟩
    rw [eqGuard_at_bool, Sem.run_bind, Sem.run_pure, Result.andThen_ok]
    show (Op.equal t (.bool a) (.bool b) >>= fun r => (pure (Value.bool (!r)) : Sem Value)).run P E.w = _
    rw [Sem.run_bind, key]; rfl
  · cases h
theorem eqp_ok {P : Program} {t e : TypeId} (d : Nat) (a : Addr) (w : World) (ht : P.underlying t = some (.pointer e)) : (Op.equalIn (d + 1) t (.pointer (some a)) (.pointer none)).run P w = .ok false w := by
  simp [Op.equalIn, run_underlying ht]
theorem eq1_ok {P : Program} {E : En} {t : TypeId} {u v : Value} {x y : D} {r : Bool} (d : Nat) (hx : Rep E.w E.S u x) (hy : Rep E.w E.S v y) (h : eq1 P t x y = some r) : (Op.equalIn (d + 1) t u v).run P E.w = .ok r E.w := by
  unfold eq1 at h
  split at h
  · rename_i ht
    injection h with h; subst h
    rw [rep_bool hx, rep_bool hy]
    simp [Op.equalIn, run_underlying ht]
  · rename_i k' k a k2 b ht
    split at h
    · rename_i hk
      subst hk
      injection h with h; subst h
      rw [rep_int hx, rep_int hy]
      simp [Op.equalIn, run_underlying ht]
    · cases h
  · rename_i ht
    injection h with h; subst h
    obtain ⟨a, rfl, rfl⟩ := rep_str hx
    obtain ⟨b, rfl, rfl⟩ := rep_str hy
    have e : (a == b) = (a.data.toList == b.data.toList) := by rw [beq_toListBytes, ByteArray.toList_eq, ByteArray.toList_eq]
    simp [Op.equalIn, run_underlying ht, e]
  · cases h
theorem part_single {P : Program} {t : TypeId} {cs : Array Value} {off : Nat} {v : Value} {w : World} (ha : aggT P t = some false) (h : cs[off]? = some v) : (part t cs off).run P w = .ok v w := by
  simp [part, aggT_ok ha, h]
theorem eqFs_ok {P : Program} {E : En} {us vs : List Value} {xs ys : List AV} (hu : us.length = xs.length) (hv : vs.length = ys.length) (hx : ∀ (i : Nat) (v : Value) (a : AV), us[i]? = some v → xs[i]? = some a → RV E v a)
    (hy : ∀ (i : Nat) (v : Value) (a : AV), vs[i]? = some v → ys[i]? = some a → RV E v a) (d : Nat) : ∀ (fs : List Field) (r : Bool), eqFs P xs ys fs = some r → (Op.eqFields (d + 1) us.toArray vs.toArray fs).run P E.w = .ok r E.w
  | [], r, h => by injection h with h; subst h; simp [Op.eqFields]
  | f :: fs, r, h => by
    unfold eqFs at h
    split at h
    · cases h
    · rename_i hn
      split at h
      · rename_i x y ha hfx hfy
        simp only [Option.bind_eq_some_iff, Option.map_eq_some_iff] at h
        obtain ⟨b, hb, c, hc, rfl⟩ := h
        have hux : us[f.offset]? = some us[f.offset]! := by
          have := (List.getElem?_eq_some_iff.1 hfx).1
          rw [List.getElem!_eq_getElem?_getD, List.getElem?_eq_getElem (by omega)]; rfl
        have hvy : vs[f.offset]? = some vs[f.offset]! := by
          have := (List.getElem?_eq_some_iff.1 hfy).1
          rw [List.getElem!_eq_getElem?_getD, List.getElem?_eq_getElem (by omega)]; rfl
        have e := eq1_ok (P := P) (E := E) d (rv_d (hx _ _ _ hux hfx)) (rv_d (hy _ _ _ hvy hfy)) hb
        have ih := eqFs_ok (P := P) hu hv hx hy d fs c hc
        rw [Op.eqFields]
        simp only [ne_eq, hn, not_false_eq_true, if_true, Sem.run_bind, part_single (P := P) (w := E.w) ha (show us.toArray[f.offset]? = some us[f.offset]! by simpa using hux), part_single (P := P) (w := E.w) ha (show vs.toArray[f.offset]? = some vs[f.offset]! by simpa using hvy), e, Result.andThen_ok]
        cases b
        · simp
        · simpa using ih
      · cases h

theorem bin_ok {P : Program} {E : En} {op : BinOp} {t : TypeId} {ox oy : Operand} {u v : Value} {x y r : AV} (hx : RV E u x) (hy : RV E v y) (h : aBin P op t x y = some r) : OpQ P E (do eqGuard op t ox oy u v; binOp op t u v) r := by
  unfold aBin at h
  split at h
  · obtain rfl := rep_int (rv_d hx)
    obtain rfl := rep_int (rv_d hy)
    split at h
    · rw [Option.map_eq_some_iff] at h
      obtain ⟨d, hd, rfl⟩ := h
      exact bShift_ok hd
    · rename_i hne
      split at h
      · rename_i hk
        subst hk
        rw [Option.map_eq_some_iff] at h
        obtain ⟨d, hd, rfl⟩ := h
        exact bInt_ok hne hd
      · cases h
  · obtain ⟨a, rfl, rfl⟩ := rep_str (rv_d hx)
    obtain ⟨b, rfl, rfl⟩ := rep_str (rv_d hy)
    rw [Option.map_eq_some_iff] at h
    obtain ⟨d, hd, rfl⟩ := h
    exact bStr_ok hd
  · obtain rfl := rep_bool (rv_d hx)
    obtain rfl := rep_bool (rv_d hy)
    split at h
    · rename_i ht
      rw [Option.map_eq_some_iff] at h
      obtain ⟨d, hd, rfl⟩ := h
      exact bBool_ok ht hd
    · cases h
  · rename_i xs ys
    cases hx with
    | agg us _ hul hu1 hur =>
    cases hy with
    | agg vs _ hvl hv1 hvr =>
    have key : ∀ b, eqSt P t xs ys = some b → (eqGuard op t ox oy (.agg us.toArray) (.agg vs.toArray)).run P E.w = .ok () E.w ∧ (Op.equalIn 10000 t (.agg us.toArray) (.agg vs.toArray)).run P E.w = .ok b E.w := by
      intro b hb
      unfold eqSt at hb
      split at hb
      · rename_i fs hf
        split at hb
        · rename_i hg
          have hff : P.fieldsOf t = fs := by simp [Program.fieldsOf, hf]
          refine ⟨run_eqGuard_agg (P := P) E.w op t ox oy us.toArray vs.toArray hg.2, ?_⟩
          have := eqFs_ok (P := P) hul hvl hur hvr 9998 fs.toList b hb
          rw [run_equalIn_struct (P := P) E.w 9999 t us.toArray vs.toArray (by rw [hff]; exact hf) hg.1, hff]
          exact this
        · cases hb
      · cases hb
    split at h
    · rw [Option.map_eq_some_iff] at h
      obtain ⟨b, hb, rfl⟩ := h
      obtain ⟨k1, k2⟩ := key b hb
      refine ⟨.bool b, ?_, .d _ _ (.bool _)⟩
      rw [Sem.run_bind, k1, Result.andThen_ok, run_eql_struct (P := P) E.w, k2]; rfl
    · rw [Option.map_eq_some_iff] at h
      obtain ⟨b, hb, rfl⟩ := h
      obtain ⟨k1, k2⟩ := key b hb
      refine ⟨.bool (!b), ?_, .d _ _ (.bool _)⟩
      rw [Sem.run_bind, k1, Result.andThen_ok, run_neq_struct (P := P) E.w, k2]; rfl
    · cases h
  · rw [Option.map_eq_some_iff] at h
    obtain ⟨d, hd, rfl⟩ := h
    unfold isNil at hd
    split at hd
    · rename_i e off o ht
      injection hd with hd; subst hd
      cases hx with
      | ptr o off cs hg =>
      have hv : v = .pointer none := by have := rv_d hy; cases this; rfl
      subst hv
      refine ⟨.bool false, ?_, .d _ _ (.bool _)⟩
      rw [eqGuard_at_pointer, Sem.run_bind, Sem.run_pure, Result.andThen_ok]
      show (Op.equal t (.pointer (some _)) (.pointer none) >>= fun r => (pure (Value.bool r) : Sem Value)).run P E.w = _
      rw [Sem.run_bind, show (Op.equal t (.pointer (some ⟨(E.φ _).1, _, none⟩)) (.pointer none)).run P E.w = .ok false E.w from eqp_ok 9999 _ _ (by assumption)]; rfl
    · injection hd with hd; subst hd
      cases hx with
      | ptr o off cs hg =>
      have hv : v = .pointer none := by have := rv_d hy; cases this; rfl
      subst hv
      refine ⟨.bool true, ?_, .d _ _ (.bool _)⟩
      rw [eqGuard_at_pointer, Sem.run_bind, Sem.run_pure, Result.andThen_ok]
      show (Op.equal t (.pointer (some _)) (.pointer none) >>= fun r => (pure (Value.bool (!r)) : Sem Value)).run P E.w = _
      rw [Sem.run_bind, show (Op.equal t (.pointer (some ⟨(E.φ _).1, _, none⟩)) (.pointer none)).run P E.w = .ok false E.w from eqp_ok 9999 _ _ (by assumption)]; rfl
    · cases hd
end Go.Rx
