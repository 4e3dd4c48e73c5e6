/- Rx, part 8: places, slices, literals, conversions. -/
import Derived.Test.YtghiaobecppbeaaRxG
import Derived.Laws.BytesArg
import Derived.Laws.IdiomStrings
namespace Go.Rx
open Go Go.RowKit
set_option linter.unusedVariables false
set_option linter.unusedSimpArgs false

def aUn (op : UnOp) (x : AV) : Option AV :=
  match op, x with
  | .not, .d (.bool b) => some (.d (.bool (!b)))
  | .neg, .d (.int k n) => some (.d (.int k (k.wrap (0 - n))))
  | .xor, .d (.int k n) => some (.d (.int k (Go.bits .xor k (if k.signed then -1 else k.max) n)))
  | _, _ => none
theorem un_ok {P : Program} {E : En} {op : UnOp} {u : Value} {x r : AV} (hx : RV E u x) (h : aUn op x = some r) : OpQ P E (Op.unary op u) r := by
  unfold aUn at h
  split at h
  · obtain rfl := rep_bool (rv_d hx); injection h with h; subst h; exact ⟨_, rfl, .d _ _ (.bool _)⟩
  · obtain rfl := rep_int (rv_d hx); injection h with h; subst h; exact ⟨_, rfl, .d _ _ (.int _ _)⟩
  · obtain rfl := rep_int (rv_d hx); injection h with h; subst h; exact ⟨_, rfl, .d _ _ (.int _ _)⟩
  · cases h

def offT (P : Program) (t : TypeId) (f : Nat) : Option Field :=
  match P.underlying t with
  | some (.struct fs) => fs[f]?
  | _ => none
def moveP (p : AV) (k : Nat) : Option AV :=
  match p with
  | .ptr o off => some (.ptr o (off + k))
  | .eptr o v i off => some (.eptr o v i (off + k))
  | .rptr e off => some (.rptr e (off + k))
  | _ => none
theorem moveP_ok {E : En} {v : Value} {p q : AV} {k : Nat} (h : RV E v p) (hm : moveP p k = some q) (hcur : ∀ o ver i off, p = .eptr o ver i off → ∃ e s es, E.H.get o = some (.arr e s ver es) ∨ E.H.get o = some (.frz e s ver es)) :
    ∃ b o, v = .pointer (some ⟨b, o, none⟩) ∧ RV E (.pointer (some ⟨b, o + k, none⟩)) q := by
  cases h with
  | undef => cases hm
  | d => cases hm
  | nilsl => cases hm
  | agg => cases hm
  | tuple => cases hm
  | own => cases hm
  | fn => cases hm
  | iface => cases hm
  | ptr o off cs hg => injection hm with hm; subst hm; exact ⟨_, _, rfl, .ptr o (off + k) cs hg⟩
  | rptr b off e k' hb hc => injection hm with hm; subst hm; exact ⟨_, _, rfl, by rw [Nat.add_assoc]; exact .rptr b off e (k' + k) hb hc⟩
  | eptr v o ver i off h1 ho =>
    injection hm with hm; subst hm
    obtain ⟨e, s, es, hg⟩ := hcur _ _ _ _ rfl
    obtain ⟨x, hgx, hx⟩ := ho
    rcases hg with hg | hg <;>
    · rw [hg] at hgx
      injection hgx with hgx
      subst hgx
      obtain ⟨e1, e2⟩ := hx.2 rfl
      subst e1
      exact ⟨_, _, rfl, .eptr _ _ _ _ _ rfl ⟨_, hg, Nat.le_refl _, fun _ => ⟨by rw [Nat.add_assoc], e2⟩⟩⟩

def curP (H : Hp) : AV → Bool
  | .eptr o ver _ _ => match H.get o with
    | some (.arr _ _ v _) => v == ver
    | some (.frz _ _ v _) => v == ver
    | _ => false
  | _ => true
theorem curP_ok {H : Hp} {p : AV} (h : curP H p = true) : ∀ o ver i off, p = .eptr o ver i off → ∃ e s es, H.get o = some (.arr e s ver es) ∨ H.get o = some (.frz e s ver es) := by
  rintro o ver i off rfl
  simp only [curP] at h
  split at h
  · rename_i e s v es hg; have hv : v = ver := by simpa using h
    subst hv; exact ⟨e, s, es, .inl hg⟩
  · rename_i e s v es hg; have hv : v = ver := by simpa using h
    subst hv; exact ⟨e, s, es, .inr hg⟩
  · cases h

def aFieldAddr (P : Program) (H : Hp) (t : TypeId) (p : AV) (f : Nat) : Option AV :=
  (offT P t f).bind fun fd => (sizeT P fd.type).bind fun n => if n = 0 then none else if curP H p then moveP p fd.offset else none
theorem fieldAddr_ok {P : Program} {E : En} {t : TypeId} {v : Value} {p r : AV} {f : Nat} (hp : RV E v p) (h : aFieldAddr P E.H t p f = some r) : OpQ P E (Instr.fieldAt t v f) r := by
  unfold aFieldAddr at h
  simp only [Option.bind_eq_some_iff] at h
  obtain ⟨fd, hfd, n, hn, h⟩ := h
  split at h
  · cases h
  · rename_i hn0
    split at h
    · rename_i hc
      obtain ⟨b, o, rfl, hr⟩ := moveP_ok hp h (curP_ok hc)
      refine ⟨_, ?_, hr⟩
      unfold offT at hfd
      split at hfd
      · rename_i fs hu
        simp [Instr.fieldAt, run_underlying hu, hfd, Instr.sureAddr, fieldPlace, sizeT_ok hn, hn0, Addr.add_lit]
      · cases hfd
    · cases h

def aField (P : Program) (t : TypeId) (x : AV) (f : Nat) : Option AV :=
  match x with
  | .agg vs => (offT P t f).bind fun fd => (aggT P fd.type).bind fun g => (sizeT P fd.type).bind fun n => takeT g n vs fd.offset
  | _ => none
theorem take_part {P : Program} {E : En} {cs : List Value} {vs : List AV} (hl : cs.length = vs.length) (h1 : ∀ v ∈ cs, v.oneCell' = true) (hr : ∀ (i : Nat) (v : Value) (a : AV), cs[i]? = some v → vs[i]? = some a → RV E v a)
    {t : TypeId} {g : Bool} {n off : Nat} {r : AV} (hg : aggT P t = some g) (hn : sizeT P t = some n) (h : takeT g n vs off = some r) : OpQ P E (part t cs.toArray off) r := by
  cases g with
  | false =>
    simp only [takeT] at h
    have h' : vs[off]? = some r := by simpa using h
    have hlt := (List.getElem?_eq_some_iff.1 h').1
    have hc := List.getElem?_eq_getElem (l := cs) (i := off) (by omega)
    exact ⟨_, part_single hg (by simp [hc]), hr off _ r hc h'⟩
  | true =>
    simp only [takeT, if_true] at h
    split at h
    · rename_i hle
      injection h with h; subst h
      refine ⟨.agg ((cs.drop off).take n).toArray, ?_, .agg _ _ (by simp; omega) (fun v hv => h1 v (List.mem_of_mem_drop (List.mem_of_mem_take hv))) (fun i v a hv ha => ?_)⟩
      · simp [part, aggT_ok hg, sizeT_ok hn]
      · rw [List.getElem?_take] at hv ha
        split at hv
        · rename_i hi
          rw [if_pos hi] at ha
          rw [List.getElem?_drop] at hv ha
          exact hr _ v a hv ha
        · cases hv
    · cases h
theorem field_ok {P : Program} {E : En} {t : TypeId} {v : Value} {x r : AV} {f : Nat} (hx : RV E v x) (h : aField P t x f = some r) : OpQ P E (Instr.field t v f) r := by
  unfold aField at h
  split at h
  · rename_i vs
    simp only [Option.bind_eq_some_iff] at h
    obtain ⟨fd, hfd, g, hg, n, hn, h⟩ := h
    cases hx with
    | agg cs _ hl h1 hr =>
    obtain ⟨u, e1, e2⟩ := take_part (P := P) hl h1 hr hg hn h
    refine ⟨u, ?_, e2⟩
    unfold offT at hfd
    split at hfd
    · rename_i fs hu
      simp [Instr.field, run_underlying hu, hfd, asAgg, e1]
    · cases hfd
  · cases h

def aExtract (x : AV) (i : Nat) : Option AV :=
  match x with
  | .tuple vs => vs[i]?
  | _ => none
theorem extract_ok {P : Program} {E : En} {v : Value} {x r : AV} {i : Nat} (hx : RV E v x) (h : aExtract x i = some r) : OpQ P E (Instr.extract v i) r := by
  unfold aExtract at h
  split at h
  · cases hx with
    | tuple cs vs hl hr =>
    have hlt := (List.getElem?_eq_some_iff.1 h).1
    have hc := List.getElem?_eq_getElem (l := cs) (i := i) (by omega)
    refine ⟨cs[i], ?_, hr i _ r hc h⟩
    simp [Instr.extract, hc]
  · cases h

/-- An element of a list: its place. What it depends on stays shut till it is asked for. -/
def ixL (es : List (List D)) (i : Int) (s : Nat) : Option AV :=
  if 0 ≤ i ∧ i < (es.length : Int) then (es[i.toNat]?).bind fun y => if y.length = s then some (.rptr y 0) else none else none
theorem ixL_at {es : List (List D)} {y : List D} {n s : Nat} (h : es[n]? = some y) (hs : y.length = s) : ixL es (n : Int) s = some (.rptr y 0) := by
  have hl := (List.getElem?_eq_some_iff.1 h).1
  unfold ixL
  rw [if_pos ⟨by omega, by omega⟩]
  simp [h, hs]
def ixS (s : List UInt8) (i : Int) : Option AV := if 0 ≤ i then (s[i.toNat]?).map fun b => .d (.int .u8 b.toNat) else none
theorem ixS_at {s : List UInt8} {b : UInt8} {n : Nat} (h : s[n]? = some b) : ixS s (n : Int) = some (.d (.int .u8 b.toNat)) := by
  unfold ixS
  rw [if_pos (by omega)]
  simp [h]
def aIndexAddr (P : Program) (H : Hp) (t : TypeId) (x ix : AV) : Option AV :=
  match ix with
  | .d (.int _ i) => match P.underlying t with
    | some (.slice e) => (sizeT P e).bind fun s => match x with
      | .d (.list es) => ixL es i s
      | .own o ver n => match H.get o with
        | some (.arr _ s' v es) => if v = ver ∧ s' = s ∧ 0 ≤ i ∧ i < (n : Int) then some (.eptr o ver i.toNat 0) else none
        | some (.frz _ s' v es) => if v = ver ∧ s' = s ∧ 0 ≤ i ∧ i < (n : Int) then some (.eptr o ver i.toNat 0) else none
        | _ => none
      | _ => none
    | some (.array n e) => (sizeT P e).bind fun s => if 0 ≤ i ∧ i < (n : Int) then (if curP H x then moveP x (i.toNat * s) else none) else none
    | _ => none
  | _ => none
theorem indexAddr_ok {P : Program} {E : En} (I : Inv E) {t : TypeId} {u v : Value} {x ix r : AV} (hx : RV E u x) (hi : RV E v ix) (h : aIndexAddr P E.H t x ix = some r) : OpQ P E (Instr.indexAt t u v) r := by
  unfold aIndexAddr at h
  split at h
  · rename_i k i
    obtain rfl := rep_int (rv_d hi)
    split at h
    · rename_i e ht
      simp only [Option.bind_eq_some_iff] at h
      obtain ⟨s, hs, h⟩ := h
      split at h
      · rename_i es
        unfold ixL at h
        split at h
        · rename_i hin
          simp only [Option.bind_eq_some_iff] at h
          obtain ⟨y, hy, h⟩ := h
          split at h
          · rename_i hys
            injection h with h; subst h
            have hrep := rv_d hx
            cases hrep with
            | empty a cap hc => simp at hin; omega
            | list b off cap s' es c hb h1 hm h2 h3 h4 =>
              obtain rfl : s = s' := by rw [← hys]; exact h2 y (List.mem_of_getElem? hy)
              refine ⟨.pointer (some ⟨b, off + i.toNat * s + 0, none⟩), ?_, .rptr b (off + i.toNat * s) y 0 hb (fun j d hd => ⟨c i.toNat j, by rw [Nat.add_assoc]; exact h3 _ y j d hy hd, h4 _ y j d hy hd⟩)⟩
              simp [Instr.indexAt, asIntOf, run_underlying ht, hin, sizeT_ok hs, Addr.add_lit]
          · cases h
        · cases h
      · rename_i o ver n
        cases hx with
        | own _ _ _ _ h1 ho =>
        obtain ⟨z, hg, hz⟩ := ho
        have key : ∀ s' w (es : List (List D)), (∃ e', z = .arr e' s' w es) ∨ (∃ e', z = .frz e' s' w es) → (ver ≤ w ∧ (ver = w → u = E.sl o n ∧ n ≤ es.length)) →
            (if w = ver ∧ s' = s ∧ 0 ≤ i ∧ i < (n : Int) then some (AV.eptr o ver i.toNat 0) else none) = some r → OpQ P E (Instr.indexAt t u (.int k i)) r := by
          intro s' w es hzz hv hr
          split at hr
          · rename_i hh
            obtain ⟨rfl, rfl, h0, hlt⟩ := hh
            injection hr with hr; subst hr
            obtain ⟨rfl, hn⟩ := hv.2 rfl
            refine ⟨.pointer (some ⟨(E.φ o).1, 0 + i.toNat * s', none⟩), ?_, ?_⟩
            · simp [Instr.indexAt, En.sl, asIntOf, run_underlying ht, h0, hlt, sizeT_ok hs, Addr.add_lit]
            · rcases hzz with ⟨e', rfl⟩ | ⟨e', rfl⟩
              · exact .eptr _ _ _ _ _ rfl ⟨_, hg, Nat.le_refl _, fun _ => ⟨by simp, by omega⟩⟩
              · exact .eptr _ _ _ _ _ rfl ⟨_, hg, Nat.le_refl _, fun _ => ⟨by simp, by omega⟩⟩
          · cases hr
        simp only [hg] at h
        cases z with
        | cells => exact hz.elim
        | arr e' s' w es => exact key s' w es (.inl ⟨e', rfl⟩) hz h
        | frz e' s' w es => exact key s' w es (.inr ⟨e', rfl⟩) hz h
      · cases h
    · rename_i n e ht
      simp only [Option.bind_eq_some_iff] at h
      obtain ⟨s, hs, h⟩ := h
      split at h
      · rename_i hin
        split at h
        · rename_i hc
          obtain ⟨b, o, rfl, hr⟩ := moveP_ok hx h (curP_ok hc)
          refine ⟨_, ?_, hr⟩
          simp [Instr.indexAt, asIntOf, run_underlying ht, hin, sizeT_ok hs, Addr.add_lit, Instr.sureAddr]
        · cases h
      · cases h
    · cases h
  · cases h

def aIndex (P : Program) (t : TypeId) (x ix : AV) : Option AV :=
  match ix, x with
  | .d (.int _ i), .d (.str s) => match P.underlying t with
    | some .string => ixS s i
    | _ => none
  | _, _ => none
theorem index_ok {P : Program} {E : En} {t : TypeId} {u v : Value} {x ix r : AV} (hx : RV E u x) (hi : RV E v ix) (h : aIndex P t x ix = some r) : OpQ P E (Instr.index t u v) r := by
  unfold aIndex at h
  split at h
  · rename_i k i s
    obtain rfl := rep_int (rv_d hi)
    obtain ⟨b, rfl, rfl⟩ := rep_str (rv_d hx)
    split at h
    · rename_i ht
      unfold ixS at h
      split at h
      · rename_i h0
        rw [Option.map_eq_some_iff] at h
        obtain ⟨c, hc, rfl⟩ := h
        refine ⟨.int .u8 c.toNat, ?_, .d _ _ (.int _ _)⟩
        have hlt := (List.getElem?_eq_some_iff.1 hc).1
        have hlt' : i.toNat < b.size := by have : b.data.toList.length = b.size := rfl; omega
        have hb : b[i.toNat]? = some c := by
          rw [ByteArray.getElem?_lt' _ _ hlt']
          have e : b.data.toList[i.toNat]? = some b[i.toNat] := by
            rw [List.getElem?_eq_getElem (by simpa using hlt)]; rfl
          rw [← e]; exact hc
        simp [Instr.index, asIntOf, run_underlying ht, h0, hb]
      · cases h
    · cases h
  · cases h

def aNilCheck (x : AV) : Option AV :=
  match x with
  | .ptr .. => some x
  | .eptr .. => none
  | .rptr .. => some x
  | .fn .. => some x
  | _ => none
theorem nilCheck_ok {P : Program} {E : En} (I : Inv E) {o : Oper} {ρ : Operand → Value} {y : Operand} {x r : AV} (ho : o.op = .nilCheck y) (hx : RV E (ρ y) x) (h : aNilCheck x = some r) : OpS P E (execOp ρ o) r E.H := by
  have key : ∀ v, ρ y = v → RV E v r → (execOp ρ o).run P E.w = .ok (.value v) E.w → OpS P E (execOp ρ o) r E.H := fun v _ hr hrun => ⟨v, E, .value v, hrun, .inl rfl, hr, I, rfl, .refl E, .refl E⟩
  unfold aNilCheck at h
  split at h <;> first | cases h | skip
  all_goals
    generalize hv : ρ y = v at hx
    refine key v hv hx ?_
    cases hx
    unfold execOp
    simp only [ho, hv]
    rfl

def aLen (P : Program) (H : Hp) (t : TypeId) (x : AV) : Option AV :=
  match P.underlying t, x with
  | some .string, .d (.str s) => some (.d (.int .i64 s.length))
  | some (.slice _), x => (srcOf H x).map fun ds => .d (.int .i64 ds.length)
  | _, _ => none
theorem len_ok {P : Program} {E : En} (I : Inv E) {t ty : TypeId} {v : Value} {x r : AV} (hx : RV E v x) (h : aLen P E.H t x = some r) : OpQ P E (Builtin.len_ #[t] ty #[v]) r := by
  unfold aLen at h
  split at h
  · rename_i ht
    injection h with h; subst h
    obtain ⟨b, rfl, rfl⟩ := rep_str (rv_d hx)
    exact ⟨.int .i64 b.size, by simp [Builtin.len_, run_underlying ht, goInt], .d _ _ (.int _ _)⟩
  · rename_i ht
    rw [Option.map_eq_some_iff] at h
    obtain ⟨ds, hds, rfl⟩ := h
    obtain ⟨a, cap, rfl, _⟩ := src_ok I hx hds
    exact ⟨.int .i64 ds.length, by simp [Builtin.len_, run_underlying ht, goInt], .d _ _ (.int _ _)⟩
  · cases h
end Go.Rx
