/- Rx, part 3: operands; making, reading and writing variables. -/
import Derived.Test.YtghiaobecppbeaaRxB
namespace Go.Rx
open Go Go.RowKit
set_option linter.unusedVariables false
set_option linter.unusedSimpArgs false

def ofCell : Value → AV
  | .bool b => .d (.bool b)
  | .int k n => .d (.int k n)
  | .string s => .d (.str s.data.toList)
  | .slice none n c => if n = 0 ∧ c = 0 then .nilsl else .undef
  | .pointer none => .d .nilp
  | _ => .undef
def ofVal : Value → AV
  | .agg cs => if cs.toList.all (·.oneCell') then .agg (cs.toList.map ofCell) else .undef
  | v => ofCell v

theorem ofCell_rv (E : En) (v : Value) : RV E v (ofCell v) := by
  unfold ofCell
  split
  · exact .d _ _ (.bool _)
  · exact .d _ _ (.int _ _)
  · exact .d _ _ (.str _)
  · split
    · rename_i h; obtain ⟨rfl, rfl⟩ := h; exact .nilsl
    · exact .undef _
  · exact .d _ _ .nilp
  · exact .undef _
theorem ofVal_rv (E : En) (v : Value) : RV E v (ofVal v) := by
  unfold ofVal
  split
  · rename_i cs
    split
    · rename_i h
      have e : cs = cs.toList.toArray := by simp
      rw [e]
      refine .agg _ _ (by simp) (fun v hv => by rw [List.all_eq_true] at h; simpa using h v (by simpa using hv)) (fun i v a hv ha => ?_)
      simp only [List.getElem?_map] at ha hv
      rw [show cs.toList[i]? = some v by simpa using hv] at ha
      simp at ha
      subst ha
      exact ofCell_rv E v
    · exact .undef _
  · exact ofCell_rv E v

def evA (fr : Fr) : Operand → AV
  | .tmp t => fr.get t
  | .const v => ofVal v
  | .func f => .fn f []
  | .global _ => .undef

structure FrOk (E : En) (a : Act) (fr : Fr) : Prop where
  rv : ∀ t, RV E (a.tmps.getD t undef) (fr.get t)

theorem FrOk.eval {E : En} {a : Act} {fr : Fr} (h : FrOk E a fr) (x : Operand) : RV E (a.eval x) (evA fr x) := by
  cases x with
  | tmp t => exact h.rv t
  | const v => exact ofVal_rv E v
  | global g => exact .undef _
  | func f => exact .fn f [] [] rfl (fun i v a hv ha => by simp at hv)

theorem FrOk.mono {E E' : En} (f : Fit E E') {a : Act} {fr : Fr} (h : FrOk E a fr) : FrOk E' a fr := ⟨fun t => (h.rv t).mono f⟩

/-- What an operation comes to. -/
def OpS (P : Program) (E : En) (s : Sem Next) (r : AV) (H' : Hp) : Prop :=
  ∃ v E' nx, s.run P E.w = .ok nx E'.w ∧ (nx = .value v ∨ (nx = .skip ∧ v = undef)) ∧ RV E' v r ∧ Inv E' ∧ E'.H = H' ∧ Step E E' ∧ Fit E E'
/-- What comes to a value, and leaves all as it was. -/
def OpQ (P : Program) (E : En) (s : Sem Value) (r : AV) : Prop := ∃ v, s.run P E.w = .ok v E.w ∧ RV E v r

theorem OpQ.ops {P : Program} {E : En} (I : Inv E) {s : Sem Value} {r : AV} (h : OpQ P E s r) : OpS P E (do pure (.value (← s))) r E.H := by
  obtain ⟨v, h1, h2⟩ := h
  exact ⟨v, E, .value v, by simp [h1], .inl rfl, h2, I, rfl, Step.refl E, Fit.refl E⟩

def cellsOf : AV → Option (List AV)
  | .undef => none
  | .tuple _ => none
  | .agg vs => some vs
  | v => some [v]

theorem cells_rv {E : En} {v : Value} {a : AV} {cs : List AV} (h : RV E v a) (hc : cellsOf a = some cs) :
    ∃ c : List Value, v.cells = c.toArray ∧ c.length = cs.length ∧ (∀ x ∈ c, x.oneCell' = true) ∧ ∀ (i : Nat) (x : Value) (b : AV), c[i]? = some x → cs[i]? = some b → RV E x b := by
  have single : v.oneCell' = true → some [a] = some cs → ∃ c : List Value, v.cells = c.toArray ∧ c.length = cs.length ∧ (∀ x ∈ c, x.oneCell' = true) ∧ ∀ (i : Nat) (x : Value) (b : AV), c[i]? = some x → cs[i]? = some b → RV E x b := by
    intro h1 he
    injection he with he
    subst he
    refine ⟨[v], by cases v <;> first | rfl | (simp [Value.oneCell'] at h1), rfl, fun x hx => by simp at hx; subst hx; exact h1, fun i x b hx hb => ?_⟩
    cases i with
    | zero => simp at hx hb; subst hx hb; exact h
    | succ i => simp at hx
  cases h with
  | undef v => cases hc
  | tuple cs vs h1 h2 => cases hc
  | agg c vs h1 h2 h3 => injection hc with hc; subst hc; exact ⟨c, rfl, h1, h2, h3⟩
  | d v x hx => exact single hx.one hc
  | nilsl => exact single rfl hc
  | own v o ver n h1 h2 => exact single h1 hc
  | ptr o off cs h1 => exact single rfl hc
  | eptr v o ver i off h1 h2 => exact single h1 hc
  | rptr b off e k h1 h2 => exact single rfl hc
  | fn f cs caps h1 h2 => exact single rfl hc
  | iface t v a h1 => exact single rfl hc

/-- A new block of the call's own. -/
theorem new_ok {E : En} (I : Inv E) (o : Nm) (ho : E.H.get o = none) (x : AObj) (c : Array Value) (ty : TypeId) (cap : Nat) (w' : World) (hos : w'.os = E.w.os) (ht : w'.tape = E.w.tape) (hout : w'.output = E.w.output)
    (hheap : w'.heap = E.w.heap.push (.cells c ty)) (hlive : x.live = true)
    (hro : Fit E ⟨w', E.S, setφ E.φ o (E.w.heap.size, cap), (o, x) :: E.H⟩ → w'.heap[E.w.heap.size]? = some (.cells c ty (0, 0)) → RO ⟨w', E.S, setφ E.φ o (E.w.heap.size, cap), (o, x) :: E.H⟩ o x) :
    Inv ⟨w', E.S, setφ E.φ o (E.w.heap.size, cap), (o, x) :: E.H⟩ ∧ Step E ⟨w', E.S, setφ E.φ o (E.w.heap.size, cap), (o, x) :: E.H⟩ ∧ Fit E ⟨w', E.S, setφ E.φ o (E.w.heap.size, cap), (o, x) :: E.H⟩ :=
  put_ok I o x (E.w.heap.size, cap) w' hos ht hout (by rw [hheap]; simp) hlive (.inl (Nat.le_refl _)) (fun b hb _ => by rw [hheap, Array.getElem?_push, if_neg (by omega)]) (fun y hy => by rw [ho] at hy; cases hy)
    (fun f => hro f (by rw [hheap, Array.getElem?_push, if_pos rfl]))

def aNewCells (H : Hp) (dst : Nat) (cs : List AV) : Option (AV × Hp) :=
  if (H.get (.slot dst)).isNone then some (.ptr (.slot dst) 0, (.slot dst, .cells cs) :: H) else none

theorem newCells_ok {P : Program} {E : En} (I : Inv E) {dst : Nat} {cs : List AV} {r : AV} {H' : Hp} (h : aNewCells E.H dst cs = some (r, H')) (c : List Value) (hl : c.length = cs.length) (h1 : ∀ x ∈ c, x.oneCell' = true)
    (hr : ∀ (i : Nat) (x : Value) (b : AV), c[i]? = some x → cs[i]? = some b → RV E x b) (e : TypeId) :
    OpS P E (do pure (.value (.pointer (some (← newRow e c.toArray))))) r H' := by
  unfold aNewCells at h
  split at h
  · rename_i hn
    injection h with h
    injection h with hr' hH
    subst hr' hH
    have hn' : E.H.get (.slot dst) = none := by simpa using hn
    obtain ⟨I', S', F'⟩ := new_ok I (.slot dst) hn' (.cells cs) c.toArray e 0 (E.w.alloc (.cells c.toArray e)) rfl rfl rfl rfl rfl
      (fun f hb => ⟨c.toArray, e, by simp only [setφ_same]; exact hb, by simpa using hl, fun k v hv => h1 v (by simp at hv; exact List.mem_of_getElem? hv), fun k v a hv ha => (hr k v a (by simpa using hv) ha).mono f⟩)
    refine ⟨.pointer (some ⟨E.w.heap.size, 0, none⟩), _, .value _, by simp only [newRow, Sem.run_bind, run_newObj, Result.andThen_ok, Sem.run_pure]; rfl, .inl rfl, ?_, I', rfl, S', F'⟩
    have := RV.ptr (E := ⟨E.w.alloc (.cells c.toArray e), E.S, setφ E.φ (.slot dst) (E.w.heap.size, 0), (.slot dst, .cells cs) :: E.H⟩) (.slot dst) 0 cs (Hp.get_same _ _ _)
    simp only [setφ_same] at this
    exact this
  · cases h

def isFn : Value → Bool
  | .nilFunc => true
  | .nilIface => true
  | .map none => true
  | _ => false
/-- A zero's cells. -/
def zeroCs (z : Value) : Option (List AV) :=
  match ofVal z with
  | .undef => if isFn z then some [.undef] else none
  | a => cellsOf a
theorem zero_rv {E : En} {z : Value} {cs : List AV} (h : zeroCs z = some cs) :
    ∃ c : List Value, z.cells = c.toArray ∧ c.length = cs.length ∧ (∀ x ∈ c, x.oneCell' = true) ∧ ∀ (i : Nat) (x : Value) (b : AV), c[i]? = some x → cs[i]? = some b → RV E x b := by
  unfold zeroCs at h
  split at h
  · split at h
    · rename_i hz
      injection h with h; subst h
      have hz1 : z.oneCell' = true ∧ z.cells = [z].toArray := by
        unfold isFn at hz
        split at hz <;> first | exact ⟨rfl, rfl⟩ | cases hz
      refine ⟨[z], hz1.2, rfl, fun x hx => by simp at hx; subst hx; exact hz1.1, fun i x b hx hb => ?_⟩
      cases i with
      | zero => simp at hx hb; subst hx hb; exact .undef _
      | succ i => simp at hx
    · cases h
  · exact cells_rv (ofVal_rv E z) h
def aAlloc (P : Program) (H : Hp) (dst : Nat) (e : TypeId) : Option (AV × Hp) :=
  ((P.info? e).bind (·.zero)).bind fun z => (zeroCs z).bind fun cs => aNewCells H dst cs

theorem alloc_ok {P : Program} {E : En} (I : Inv E) {dst : Nat} {e : TypeId} {r : AV} {H' : Hp} (h : aAlloc P E.H dst e = some (r, H')) :
    OpS P E (do pure (.value (← Instr.alloc e true (.tuple #[])))) r H' := by
  unfold aAlloc at h
  simp only [Option.bind_eq_some_iff] at h
  obtain ⟨z, ⟨i, hi, hz⟩, cs, hcs, h⟩ := h
  obtain ⟨c, hc1, hc2, hc3, hc4⟩ := zero_rv hcs
  obtain ⟨v, E', nx, a1, a2⟩ := newCells_ok (P := P) I h c hc2 hc3 hc4 e
  refine ⟨v, E', nx, ?_, a2⟩
  rw [← a1]
  simp [Instr.alloc, zeroValue, typeInfo, hi, hz, newVar, hc1]

def aBox (H : Hp) (dst : Nat) (x : AV) : Option (AV × Hp) := (cellsOf x).bind fun cs => aNewCells H dst cs

theorem box_ok {P : Program} {E : En} (I : Inv E) {dst : Nat} {e : TypeId} {x r : AV} {v : Value} {H' : Hp} (hx : RV E v x) (h : aBox E.H dst x = some (r, H')) :
    OpS P E (do pure (.value (← Instr.box e v))) r H' := by
  unfold aBox at h
  simp only [Option.bind_eq_some_iff] at h
  obtain ⟨cs, hcs, h⟩ := h
  obtain ⟨c, hc1, hc2, hc3, hc4⟩ := cells_rv hx hcs
  obtain ⟨u, E', nx, a1, a2⟩ := newCells_ok (P := P) I h c hc2 hc3 hc4 e
  refine ⟨u, E', nx, ?_, a2⟩
  rw [← a1]
  simp [Instr.box, newVar, hc1]

/-- The cells that a pointer's variable lies in, and how far in. -/
def rdAt (H : Hp) : AV → Option (List AV × Nat)
  | .ptr o off => match H.get o with
    | some (.cells cs) => some (cs, off)
    | _ => none
  | .eptr o ver i off => match H.get o with
    | some (.arr _ _ v es) => if v = ver then (es[i]?).map fun e => (e.map .d, off) else none
    | some (.frz _ _ v es) => if v = ver then (es[i]?).map fun e => (e.map .d, off) else none
    | _ => none
  | .rptr e off => some (e.map .d, off)
  | _ => none

theorem rdAt_ok {E : En} (I : Inv E) {v : Value} {p : AV} {cs : List AV} {off : Nat} (h : RV E v p) (hr : rdAt E.H p = some (cs, off)) :
    ∃ b o, v = .pointer (some ⟨b, o + off, none⟩) ∧ ∀ j a, cs[j]? = some a → ∃ c, E.w.cell? ⟨b, o + j, none⟩ = some c ∧ c.oneCell' = true ∧ RV E c a := by
  cases h with
  | undef => cases hr
  | d => cases hr
  | nilsl => cases hr
  | agg => cases hr
  | tuple => cases hr
  | own => cases hr
  | fn => cases hr
  | iface => cases hr
  | ptr o off' cs' hg =>
    simp only [rdAt, hg] at hr
    injection hr with hr
    injection hr with h1 h2
    subst h1 h2
    refine ⟨(E.φ o).1, 0, by simp, fun j a ha => ?_⟩
    obtain ⟨c, ty, b1, b2, b3, b4⟩ := I.obj o _ hg
    have hj : j < c.size := by rw [b2]; exact (List.getElem?_eq_some_iff.1 ha).1
    have hcj : c[j]? = some c[j] := Array.getElem?_eq_getElem hj
    exact ⟨c[j], by simp only [World.cell?, b1]; simp [hcj], b3 j _ hcj, b4 j _ a hcj ha⟩
  | eptr v o ver i off' h1 ho =>
    obtain ⟨x, hg, hx⟩ := ho
    have key : ∀ (s w : Nat) (es : List (List D)), ver ≤ w → (ver = w → v = .pointer (some ⟨(E.φ o).1, i * s + off', none⟩) ∧ i < es.length) →
        (if w = ver then (es[i]?).map fun (e : List D) => (e.map AV.d, off') else none) = some (cs, off) →
        (∀ i x j d, es[i]? = some x → x[j]? = some d → ∃ u, E.w.cell? ⟨(E.φ o).1, i * s + j, none⟩ = some u ∧ Rep E.w E.S u d) →
        ∃ b o, v = .pointer (some ⟨b, o + off, none⟩) ∧ ∀ j a, cs[j]? = some a → ∃ c, E.w.cell? ⟨b, o + j, none⟩ = some c ∧ c.oneCell' = true ∧ RV E c a := by
      intro s w es h2 h3 h4 h5
      split at h4
      · rename_i hw
        obtain ⟨e1, e2⟩ := h3 hw.symm
        cases he : es[i]? with
        | none => rw [he] at h4; cases h4
        | some e =>
          rw [he] at h4
          simp at h4
          obtain ⟨rfl, rfl⟩ := h4
          refine ⟨(E.φ o).1, i * s, e1, fun j a ha => ?_⟩
          rw [List.getElem?_map] at ha
          cases hd : e[j]? with
          | none => rw [hd] at ha; cases ha
          | some d =>
            rw [hd] at ha
            simp at ha
            subst ha
            obtain ⟨u, hu, hu2⟩ := h5 i e j d he hd
            exact ⟨u, hu, hu2.one, .d _ _ hu2⟩
      · cases h4
    cases x with
    | cells cs => exact hx.elim
    | arr e s w es =>
      obtain ⟨c, b1, b2, b3, b4, b5, b6⟩ := I.obj o _ hg
      simp only [rdAt, hg] at hr
      refine key s w es hx.1 hx.2 hr (fun i x j d hxi hd => ?_)
      obtain ⟨u, hu, hu2⟩ := b6 i x j d hxi hd
      exact ⟨u, by simp only [World.cell?, b1]; simpa using hu, hu2⟩
    | frz e s w es =>
      obtain ⟨b0, c, fz, b1, b3, b4, b5, b6⟩ := I.obj o _ hg
      simp only [rdAt, hg] at hr
      refine key s w es hx.1 hx.2 hr (fun i x j d hxi hd => ?_)
      obtain ⟨u, hu, hu2⟩ := b6 i x j d hxi hd
      exact ⟨u, by simp only [World.cell?, b1]; simpa using hu, hu2⟩
  | rptr b off' e k hb hc =>
    simp only [rdAt] at hr
    injection hr with hr
    injection hr with h1 h2
    subst h1 h2
    refine ⟨b, off', rfl, fun j a ha => ?_⟩
    rw [List.getElem?_map] at ha
    cases hd : e[j]? with
    | none => rw [hd] at ha; cases ha
    | some d =>
      rw [hd] at ha
      simp at ha
      subst ha
      obtain ⟨u, hu, hu2⟩ := hc j d hd
      exact ⟨u, hu, hu2.one, .d _ _ hu2⟩

def aggT (P : Program) (t : TypeId) : Option Bool :=
  match P.underlying t with
  | none => none
  | some (.struct _) => some true
  | some (.array _ _) => some true
  | some _ => some false
theorem aggT_ok {P : Program} {t : TypeId} {b : Bool} (h : aggT P t = some b) (w : World) : (isAgg t).run P w = .ok b w := by
  unfold aggT at h
  split at h
  · cases h
  · injection h with h; subst h; rename_i hu; simp [isAgg, run_underlying hu]
  · injection h with h; subst h; rename_i hu; simp [isAgg, run_underlying hu]
  · rename_i d h1 h2 hu
    injection h with h
    subst h
    simp only [isAgg, Sem.run_bind, run_underlying hu, Result.andThen_ok]
    cases d <;> first | rfl | (exact absurd rfl (h1 _)) | (exact absurd rfl (h2 _ _))
def sizeT (P : Program) (t : TypeId) : Option Nat := (P.info? t).map (·.size)
theorem sizeT_ok {P : Program} {t : TypeId} {n : Nat} (h : sizeT P t = some n) (w : World) : (sizeOf t).run P w = .ok n w := by
  unfold sizeT at h
  cases hi : P.info? t with
  | none => rw [hi] at h; cases h
  | some i => rw [hi] at h; simp at h; subst h; simp [sizeOf, typeInfo, hi]

def takeT (agg : Bool) (n : Nat) (cs : List AV) (off : Nat) : Option AV :=
  if agg then (if off + n ≤ cs.length then some (.agg ((cs.drop off).take n)) else none) else cs[off]?

def aLoad (P : Program) (H : Hp) (t : TypeId) (p : AV) : Option AV :=
  (aggT P t).bind fun g => (sizeT P t).bind fun n => (rdAt H p).bind fun x => takeT g n x.1 x.2

theorem load_ok {P : Program} {E : En} (I : Inv E) {t : TypeId} {v : Value} {p r : AV} (hp : RV E v p) (h : aLoad P E.H t p = some r) : OpQ P E (Instr.loadAt t v) r := by
  unfold aLoad at h
  simp only [Option.bind_eq_some_iff] at h
  obtain ⟨g, hg, n, hn, ⟨cs, off⟩, hr, h⟩ := h
  obtain ⟨b, o, rfl, hc⟩ := rdAt_ok I hp hr
  cases g with
  | false =>
    simp only [takeT] at h
    obtain ⟨c, h1, h2, h3⟩ := hc off r (by simpa using h)
    refine ⟨c, ?_, h3⟩
    simp [Instr.loadAt, Instr.sureAddr, loadVar, aggT_ok hg, h1]
  | true =>
    simp only [takeT, if_true] at h
    split at h
    · rename_i hle
      injection h with h
      subst h
      have each : ∀ j, j < n → ∃ c, E.w.cell? ⟨b, o + off + j, none⟩ = some c ∧ c.oneCell' = true ∧ ∀ a, ((cs.drop off).take n)[j]? = some a → RV E c a := fun j hj => by
        have hj' : off + j < cs.length := by omega
        obtain ⟨c, h1, h2, h3⟩ := hc (off + j) cs[off + j] (List.getElem?_eq_getElem hj')
        refine ⟨c, by rw [Nat.add_assoc]; exact h1, h2, fun a ha => ?_⟩
        rw [List.getElem?_take, if_pos hj, List.getElem?_drop, List.getElem?_eq_getElem hj'] at ha
        injection ha with ha
        exact ha ▸ h3
      let f : Nat → Value := fun j => (E.w.cell? ⟨b, o + off + j, none⟩).getD undef
      have hf : ∀ j, j < n → E.w.cell? ⟨b, o + off + j, none⟩ = some (f j) := fun j hj => by obtain ⟨c, h1, _⟩ := each j hj; simp [f, h1]
      have hrun := run_loadCells (P := P) E.w ⟨b, o + off, none⟩ n f (fun j hj => by rw [Addr.add_lit]; exact hf j hj)
      refine ⟨.agg ((List.range n).map f).toArray, ?_, .agg _ _ (by simp; omega) (fun x hx => ?_) (fun i x a hx ha => ?_)⟩
      · simp [Instr.loadAt, Instr.sureAddr, loadVar, aggT_ok hg, sizeT_ok hn, hrun]
      · simp only [List.mem_map, List.mem_range] at hx
        obtain ⟨j, hj, rfl⟩ := hx
        obtain ⟨c, h1, h2, h3⟩ := each j hj
        have : f j = c := by simp [f, h1]
        rw [this]; exact h2
      · rw [List.getElem?_map] at hx
        have hi : i < n := by
          have := (List.getElem?_eq_some_iff.1 ha).1
          simp at this; omega
        rw [List.getElem?_range hi] at hx
        simp at hx
        obtain ⟨c, h1, h2, h3⟩ := each i hi
        have : f i = c := by simp [f, h1]
        rw [← hx, this]; exact h3 a ha
    · cases h
end Go.Rx
