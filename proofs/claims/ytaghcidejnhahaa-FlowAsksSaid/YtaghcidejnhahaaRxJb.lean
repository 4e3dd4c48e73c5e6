/- A part of the proof of the law: what functions of the program come to, walked by Rx, or plain facts on it. -/
import Derived.Test.YtaghcidejnhahaaRxJa
import Derived.Laws.Build
import Derived.Scope
section
namespace Go.Rx
open Go Go.RowKit
set_option linter.unusedVariables false
set_option linter.unusedSimpArgs false

def isIface (P : Program) (t : TypeId) : Bool :=
  match P.underlying t with
  | some (.interface _) => true
  | none => true
  | _ => false

/-- The least, or the greatest, of two. -/
def aMin2 (m : Bool) : AV → AV → Option AV
  | .d (.int k a), .d (.int _ b) => some (.d (.int k (if (if m = true then decide (b > a) else decide (b < a)) = true then b else a)))
  | _, _ => none
theorem min2_ok {P : Program} {E : En} {ts : Array TypeId} {ty : TypeId} {u v : Value} {x y r : AV} (hx : RV E u x) (hy : RV E v y) (h : aMin2 false x y = some r) : OpQ P E (Builtin.min_ ts ty #[u, v]) r := by
  unfold aMin2 at h
  split at h
  · rename_i k a k' b
    injection h with h; subst h
    have h1 := rep_int (rv_d hx)
    have h2 := rep_int (rv_d hy)
    subst h1 h2
    refine ⟨.int k (if b < a then b else a), by simp [Builtin.min_, Builtin.min2], ?_⟩
    have := RV.d (E := E) _ _ (Rep.int k (if b < a then b else a))
    simpa using this
  · cases h
theorem max2_ok {P : Program} {E : En} {ts : Array TypeId} {ty : TypeId} {u v : Value} {x y r : AV} (hx : RV E u x) (hy : RV E v y) (h : aMin2 true x y = some r) : OpQ P E (Builtin.max_ ts ty #[u, v]) r := by
  unfold aMin2 at h
  split at h
  · rename_i k a k' b
    injection h with h; subst h
    have h1 := rep_int (rv_d hx)
    have h2 := rep_int (rv_d hy)
    subst h1 h2
    refine ⟨.int k (if b > a then b else a), by simp [Builtin.max_, Builtin.max2], ?_⟩
    have := RV.d (E := E) _ _ (Rep.int k (if b > a then b else a))
    simpa using this
  · cases h

/-- One operation that calls no function of the program's. -/
def aop (P : Program) (dst : Nat) (ρ : Operand → AV) (H : Hp) : Op → Option (AV × Hp)
  | .move x => some (ρ x, H)
  | .assign x => some (ρ x, H)
  | .pick c a b => match ρ c with
    | .d (.bool t) => some (if t = true then ρ a else ρ b, H)
    | _ => none
  | .alloc e => aAlloc P H dst e
  | .box _ x => aBox H dst (ρ x)
  | .build t ps => (aBuild P t (ps.toList.map fun p => (p.1, ρ p.2))).map fun r => (r, H)
  | .buildSlice t n ps => aBuildSlice P H dst t n (ps.toList.map fun p => (p.1, ρ p.2))
  | .load t a => (aLoad P H t (ρ a)).map fun r => (r, H)
  | .store t a x => (aStore P H t (ρ a) (ρ x)).map fun H' => (.undef, H')
  | .nilCheck x => (aNilCheck (ρ x)).map fun r => (r, H)
  | .binOp op t x y _ => (aBin P op t (ρ x) (ρ y)).map fun r => (r, H)
  | .unOp op _ x => (aUn op (ρ x)).map fun r => (r, H)
  | .convert s d x => (aConvert P H s d (ρ x)).map fun r => (r, H)
  | .makeSlice t l c => aMakeSlice P H dst t (ρ l) (ρ c)
  | .slice t x lo hi mx => aSlice P H t (ρ x) (lo.map ρ) (hi.map ρ) (mx.map ρ)
  | .fieldAddr t x f => (aFieldAddr P H t (ρ x) f).map fun r => (r, H)
  | .field t x f => (aField P t (ρ x) f).map fun r => (r, H)
  | .indexAddr t x i => (aIndexAddr P H t (ρ x) (ρ i)).map fun r => (r, H)
  | .index t x i => (aIndex P t (ρ x) (ρ i)).map fun r => (r, H)
  | .extract x i => (aExtract (ρ x) i).map fun r => (r, H)
  | .makeFunc (.func f) first caps => if first.size = 0 then some (.fn f (caps.toList.map ρ), H) else none
  | .makeInterface t x => if isIface P t then none else some (.iface t (ρ x), H)
  | .typeAssert x _ t ok => match ρ x with
    | .iface u a => if u = t ∧ isIface P t = false ∧ ok = true then some (.tuple [a, .d (.bool true)], H) else none
    | _ => none
  | .call c => match c.callee, c.args.toList, c.argTypes.toList with
    | .builtin .len, [x], [t] => (aLen P H t (ρ x)).map fun r => (r, H)
    | .builtin .append, [s, x], [t, u] => aAppend P H dst t u (ρ s) (ρ x)
    | .builtin .min, [x, y], [t, u] => (aMin2 false (ρ x) (ρ y)).map fun r => (r, H)
    | .builtin .max, [x, y], [t, u] => (aMin2 true (ρ x) (ρ y)).map fun r => (r, H)
    | _, _, _ => none
  | _ => none

theorem opq_map {P : Program} {E : En} (I : Inv E) {s : Sem Value} {o : Option AV} {r : AV} {H' : Hp} (h : o.map (fun r => (r, E.H)) = some (r, H')) (hq : ∀ r, o = some r → OpQ P E s r) : OpS P E (do pure (.value (← s))) r H' := by
  rw [Option.map_eq_some_iff] at h
  obtain ⟨r', hr, h⟩ := h
  injection h with h1 h2
  subst h1 h2
  exact OpQ.ops I (hq r' hr)

theorem parts_ok {E : En} {a : Act} {fr : Fr} (F : FrOk E a fr) (ps : Array (Nat × Operand)) : ∀ (k i j : Nat) (v : Value) (b : AV), (ps.toList.map fun p => (p.1, a.eval p.2))[k]? = some (i, v) → (ps.toList.map fun p => (p.1, evA fr p.2))[k]? = some (j, b) → i = j ∧ RV E v b := by
  intro k i j v b hv hb
  rw [List.getElem?_map, Option.map_eq_some_iff] at hv hb
  obtain ⟨p, hp, hv⟩ := hv
  obtain ⟨q, hq, hb⟩ := hb
  rw [hp] at hq
  injection hq with hq
  subst hq
  injection hv with h1 h2
  injection hb with h3 h4
  subst h1 h2 h3 h4
  exact ⟨rfl, F.eval _⟩

theorem parts_arr (ps : Array (Nat × Operand)) (ρ : Operand → Value) : ps.map (fun x => match x with | (i, y) => (i, ρ y)) = (ps.toList.map fun p => (p.1, ρ p.2)).toArray := by
  apply Array.ext'; simp

theorem aop_ok {P : Program} {E : En} (I : Inv E) {a : Act} {fr : Fr} (F : FrOk E a fr) {dst : Nat} {o : Oper} {r : AV} {H' : Hp} (h : aop P dst (evA fr) E.H o.op = some (r, H')) : OpS P E (execOp a.eval o) r H' := by
  have ev := fun x => F.eval x
  have val : ∀ (x : Operand), o.op = .move x ∨ o.op = .assign x → OpS P E (execOp a.eval o) (evA fr x) E.H := fun x hx => by
    refine ⟨a.eval x, E, .value _, ?_, .inl rfl, ev x, I, rfl, .refl E, .refl E⟩
    rcases hx with hx | hx <;> simp [execOp, hx]
  unfold aop at h
  split at h
  · rename_i x ho
    injection h with h; injection h with h1 h2; subst h1 h2
    exact val x (.inl ho)
  · rename_i x ho
    injection h with h; injection h with h1 h2; subst h1 h2
    exact val x (.inr ho)
  · rename_i c x y ho
    split at h
    · rename_i t hc
      injection h with h; injection h with h1 h2; subst h1 h2
      have hcv := ev c
      rw [hc] at hcv
      have hcb := rep_bool (rv_d hcv)
      refine ⟨if t = true then a.eval x else a.eval y, E, .value _, ?_, .inl rfl, ?_, I, rfl, .refl E, .refl E⟩
      · simp [execOp, ho, hcb, asBool]
      · cases t
        · exact ev y
        · exact ev x
    · cases h
  · rename_i e ho
    have := alloc_ok (P := P) I h
    simpa [execOp, ho] using this
  · rename_i e x ho
    have := box_ok (P := P) (e := e) I (ev x) h
    simpa [execOp, ho] using this
  · rename_i t ps ho
    have := opq_map (P := P) I h (fun r hr => build_ok (P := P) (vparts := ps.toList.map fun p => (p.1, a.eval p.2)) (by simp) (parts_ok F ps) hr)
    unfold execOp
    simp only [ho, parts_arr]
    exact this
  · rename_i t n ps ho
    have := buildSlice_ok (P := P) I (vparts := ps.toList.map fun p => (p.1, a.eval p.2)) (by simp) (parts_ok F ps) h
    unfold execOp
    simp only [ho, parts_arr]
    exact this
  · rename_i t x ho
    have := opq_map (P := P) I h (fun r hr => load_ok I (ev x) hr)
    simpa [execOp, ho] using this
  · rename_i t x y ho
    rw [Option.map_eq_some_iff] at h
    obtain ⟨H1, h, h1⟩ := h
    injection h1 with h1 h2; subst h1 h2
    have := store_ok (P := P) I (ev x) (ev y) h
    simpa [execOp, ho] using this
  · rename_i x ho
    rw [Option.map_eq_some_iff] at h
    obtain ⟨r', hr, h⟩ := h
    injection h with h1 h2; subst h1 h2
    exact nilCheck_ok I ho (ev x) hr
  · rename_i op t x y yt ho
    have := opq_map (P := P) I h (fun r hr => bin_ok (P := P) (ox := x) (oy := y) (ev x) (ev y) hr)
    simpa [execOp, ho] using this
  · rename_i op t x ho
    have := opq_map (P := P) I h (fun r hr => un_ok (P := P) (ev x) hr)
    simpa [execOp, ho] using this
  · rename_i s d x ho
    rw [Option.map_eq_some_iff] at h
    obtain ⟨r', hr, h⟩ := h
    injection h with h1 h2; subst h1 h2
    have := convert_ok (P := P) I (ev x) hr
    simpa [execOp, ho] using this
  · rename_i t x y ho
    have := makeSlice_ok (P := P) I (ev x) (ev y) h
    simpa [execOp, ho] using this
  · rename_i t x lo hi mx ho
    have om : ∀ (q : Option Operand), (q.map a.eval).isSome = (q.map (evA fr)).isSome ∧ ∀ u b, q.map a.eval = some u → q.map (evA fr) = some b → RV E u b := fun q => by
      cases q with
      | none => exact ⟨rfl, fun u b h => by cases h⟩
      | some y => exact ⟨rfl, fun u b h1 h2 => by injection h1 with h1; injection h2 with h2; subst h1 h2; exact ev y⟩
    have := slice_ok (P := P) I (ev x) (om lo).1 (om lo).2 (om hi).1 (om hi).2 (om mx).1 (om mx).2 h
    simpa [execOp, ho] using this
  · rename_i t x f ho
    have := opq_map (P := P) I h (fun r hr => fieldAddr_ok (P := P) (ev x) hr)
    simpa [execOp, ho] using this
  · rename_i t x f ho
    have := opq_map (P := P) I h (fun r hr => field_ok (P := P) (ev x) hr)
    simpa [execOp, ho] using this
  · rename_i t x i ho
    have := opq_map (P := P) I h (fun r hr => indexAddr_ok (P := P) I (ev x) (ev i) hr)
    simpa [execOp, ho] using this
  · rename_i t x i ho
    have := opq_map (P := P) I h (fun r hr => index_ok (P := P) (ev x) (ev i) hr)
    simpa [execOp, ho] using this
  · rename_i x i ho
    have := opq_map (P := P) I h (fun r hr => extract_ok (P := P) (ev x) hr)
    simpa [execOp, ho] using this
  · rename_i f first caps ho
    split at h
    · rename_i hf
      injection h with h; injection h with h1 h2; subst h1 h2
      have hf' : first = #[] := Array.eq_empty_of_size_eq_zero hf
      subst hf'
      have e1 : caps.map a.eval = (caps.toList.map a.eval).toArray := by apply Array.ext'; simp
      refine ⟨.func (.func f) #[] (caps.toList.map a.eval).toArray, E, .value _, ?_, .inl rfl, .fn f _ _ (by simp) (fun i v b hv hb => ?_), I, rfl, .refl E, .refl E⟩
      · unfold execOp
        simp only [ho, Instr.makeFunc, e1, Array.map_empty]
        rfl
      · rw [List.getElem?_map, Option.map_eq_some_iff] at hv hb
        obtain ⟨p, hp, rfl⟩ := hv
        obtain ⟨q, hq, rfl⟩ := hb
        rw [hp] at hq; injection hq with hq; subst hq
        exact ev p
    · cases h
  · rename_i t x ho
    split at h
    · cases h
    · rename_i hi
      injection h with h; injection h with h1 h2; subst h1 h2
      refine ⟨.iface t (a.eval x), E, .value _, ?_, .inl rfl, .iface _ _ _ (ev x), I, rfl, .refl E, .refl E⟩
      have hc : P.concrete t = true := by
        unfold Program.concrete
        unfold isIface at hi
        split at hi <;> first | (exact absurd rfl hi) | (split <;> simp_all)
      simp [execOp, ho, run_makeInterface (P := P) E.w t _ hc]
  · rename_i x xt t ok ho
    split at h
    · rename_i u b hx
      split at h
      · rename_i hc
        obtain ⟨rfl, hi, rfl⟩ := hc
        injection h with h; injection h with h1 h2; subst h1 h2
        have hxv := ev x
        rw [hx] at hxv
        generalize hxe : a.eval x = xv at hxv
        cases hxv with
        | iface _ v _ hv =>
        refine ⟨.tuple #[v, .bool true], E, .value _, ?_, .inl rfl, ?_, I, rfl, .refl E, .refl E⟩
        · unfold isIface at hi
          cases hu : P.underlying u with
          | none => rw [hu] at hi; cases hi
          | some d =>
            rw [hu] at hi
            unfold execOp
            simp only [ho, hxe, Instr.typeAssert, Sem.run_bind, run_underlying hu, Result.andThen_ok]
            cases d <;> first | (cases hi; done) | simp
        · refine .tuple [v, .bool true] [b, .d (.bool true)] rfl (fun i w c hw hc => ?_)
          match i with
          | 0 => simp at hw hc; subst hw hc; exact hv
          | 1 => simp at hw hc; subst hw hc; exact .d _ _ (.bool true)
          | i + 2 => simp at hw
      · cases h
    · cases h
  · rename_i c ho
    split at h
    · rename_i x t hcal hargs hts
      have := opq_map (P := P) I h (fun r hr => len_ok (P := P) (ty := o.type) I (ev x) hr)
      have ha : c.args = #[x] := by have e : c.args = c.args.toList.toArray := by simp
                                    rw [e, hargs]
      have ht : c.argTypes = #[t] := by have e : c.argTypes = c.argTypes.toList.toArray := by simp
                                        rw [e, hts]
      simpa [execOp, ho, resolve, hcal, ha, ht, invoke, builtin] using this
    · rename_i s x t u hcal hargs hts
      have := append_ok (P := P) (ty := o.type) I (ev s) (ev x) h
      have ha : c.args = #[s, x] := by have e : c.args = c.args.toList.toArray := by simp
                                       rw [e, hargs]
      have ht : c.argTypes = #[t, u] := by have e : c.argTypes = c.argTypes.toList.toArray := by simp
                                           rw [e, hts]
      simpa [execOp, ho, resolve, hcal, ha, ht, invoke, builtin] using this
    · rename_i x y t u hcal hargs hts
      have := opq_map (P := P) I h (fun r hr => min2_ok (P := P) (ts := #[t, u]) (ty := o.type) (ev x) (ev y) hr)
      have ha : c.args = #[x, y] := by have e : c.args = c.args.toList.toArray := by simp
                                       rw [e, hargs]
      have ht : c.argTypes = #[t, u] := by have e : c.argTypes = c.argTypes.toList.toArray := by simp
                                           rw [e, hts]
      simpa [execOp, ho, resolve, hcal, ha, ht, invoke, builtin] using this
    · rename_i x y t u hcal hargs hts
      have := opq_map (P := P) I h (fun r hr => max2_ok (P := P) (ts := #[t, u]) (ty := o.type) (ev x) (ev y) hr)
      have ha : c.args = #[x, y] := by have e : c.args = c.args.toList.toArray := by simp
                                       rw [e, hargs]
      have ht : c.argTypes = #[t, u] := by have e : c.argTypes = c.argTypes.toList.toArray := by simp
                                           rw [e, hts]
      simpa [execOp, ho, resolve, hcal, ha, ht, invoke, builtin] using this
    · cases h
  · cases h
end Go.Rx
end
section
namespace Go.Rx
open Go Go.RowKit
set_option linter.unusedVariables false
set_option linter.unusedSimpArgs false

/-- New names: each old name's new name, and the version that its handles get. -/
abbrev Gm := List (Nm × (Nm × Nat))
def Gm.get : Gm → Nm → Option (Nm × Nat)
  | [], _ => none
  | (p, x) :: r, o => if p = o then some x else Gm.get r o

def renH (g : Gm) (H : Hp) (o : Nm) (ver : Nat) : Option (Nm × Nat) :=
  match g.get o, H.get o with
  | some y, some (.arr _ _ v _) => if v = ver then some y else none
  | some y, some (.frz _ _ v _) => if v = ver then some y else none
  | _, _ => none

mutual
def ren (g : Gm) (H : Hp) : AV → AV
  | .own o ver n => match renH g H o ver with
    | some y => .own y.1 y.2 n
    | none => .undef
  | .eptr o ver i off => match renH g H o ver with
    | some y => .eptr y.1 y.2 i off
    | none => .undef
  | .ptr o off => match g.get o, H.get o with
    | some y, some (.cells _) => .ptr y.1 off
    | _, _ => .undef
  | .agg vs => .agg (renL g H vs)
  | .tuple vs => .tuple (renL g H vs)
  | .fn f vs => .fn f (renL g H vs)
  | .iface t a => .iface t (ren g H a)
  | .d x => .d x
  | .nilsl => .nilsl
  | .rptr e off => .rptr e off
  | .undef => .undef
def renL (g : Gm) (H : Hp) : List AV → List AV
  | [] => []
  | a :: r => ren g H a :: renL g H r
end
theorem renL_eq (g : Gm) (H : Hp) : ∀ l, renL g H l = l.map (ren g H)
  | [] => by simp [renL]
  | a :: r => by simp [renL, renL_eq g H r]

def renO (g : Gm) (H : Hp) (nv : Nat) : AObj → AObj
  | .cells cs => .cells (renL g H cs)
  | .arr e s _ es => .arr e s nv es
  | .frz e s _ es => .frz e s nv es

/-- The objects that have new names, under these. -/
def renHp (g : Gm) (H : Hp) : Gm → Hp
  | [] => []
  | (o, y) :: r => match H.get o with
    | some x => (y.1, renO g H y.2 x) :: renHp g H r
    | none => renHp g H r

def Gm.ok (g : Gm) : Bool := decide ((g.map (·.1)).Nodup) && decide ((g.map (·.2.1)).Nodup)

structure Hom (g : Gm) (E E' : En) : Prop where
  st : ∀ b, E.S b → E'.S b ∧ E'.w.heap[b]? = E.w.heap[b]?
  obj : ∀ o y x, g.get o = some y → E.H.get o = some x → E'.H.get y.1 = some (renO g E.H y.2 x) ∧ E'.φ y.1 = E.φ o

theorem renH_ok {g : Gm} {E E' : En} (h : Hom g E E') {o : Nm} {ver : Nat} {y : Nm × Nat} (hr : renH g E.H o ver = some y) {R R' : Nat → List (List D) → Prop} (ho : OwnOk E o ver R) (hR : ∀ s es, E'.φ y.1 = E.φ o → R s es → R' s es) : OwnOk E' y.1 y.2 R' := by
  obtain ⟨x, hg, hx⟩ := ho
  unfold renH at hr
  rw [hg] at hr
  cases x with
  | cells cs => exact hx.elim
  | arr e s v es =>
    cases hgo : g.get o with
    | none => rw [hgo] at hr; cases hr
    | some z =>
      rw [hgo] at hr
      simp only [] at hr
      split at hr
      · rename_i hv
        injection hr with hr
        subst hr
        obtain ⟨h1, h2⟩ := h.obj o _ _ hgo hg
        exact ⟨_, h1, Nat.le_refl _, fun _ => hR s es h2 (hx.2 hv.symm)⟩
      · cases hr
  | frz e s v es =>
    cases hgo : g.get o with
    | none => rw [hgo] at hr; cases hr
    | some z =>
      rw [hgo] at hr
      simp only [] at hr
      split at hr
      · rename_i hv
        injection hr with hr
        subst hr
        obtain ⟨h1, h2⟩ := h.obj o _ _ hgo hg
        exact ⟨_, h1, Nat.le_refl _, fun _ => hR s es h2 (hx.2 hv.symm)⟩
      · cases hr

theorem RV.hom {g : Gm} {E E' : En} (h : Hom g E E') {v : Value} {a : AV} (hr : RV E v a) : RV E' v (ren g E.H a) := by
  have hrep : ∀ v x, Rep E.w E.S v x → Rep E'.w E'.S v x := fun v x hx => hx.mono h.st
  have many : ∀ (cs : List Value) (vs : List AV), (∀ (i : Nat) (v : Value) (a : AV), cs[i]? = some v → vs[i]? = some a → RV E' v (ren g E.H a)) → ∀ (i : Nat) (v : Value) (a : AV), cs[i]? = some v → (renL g E.H vs)[i]? = some a → RV E' v a := fun cs vs ih i v a hv ha => by
    rw [renL_eq, List.getElem?_map, Option.map_eq_some_iff] at ha
    obtain ⟨b, hb, rfl⟩ := ha
    exact ih i v b hv hb
  induction hr with
  | undef v => simp only [ren]; exact .undef v
  | d v x hx => simp only [ren]; exact .d v x (hrep _ _ hx)
  | nilsl => simp only [ren]; exact .nilsl
  | agg cs vs hl h1 _ ih => simp only [ren]; exact .agg cs _ (by rw [renL_eq]; simpa using hl) h1 (many cs vs ih)
  | tuple cs vs hl _ ih => simp only [ren]; exact .tuple cs _ (by rw [renL_eq]; simpa using hl) (many cs vs ih)
  | fn f cs caps hl _ ih => simp only [ren]; exact .fn f cs _ (by rw [renL_eq]; simpa using hl) (many cs caps ih)
  | iface t v a _ ih => simp only [ren]; exact .iface t v _ ih
  | rptr b off e k hb hc =>
    simp only [ren]
    refine .rptr b off e k (h.st b hb).1 (fun j d hd => ?_)
    obtain ⟨c, h1, h2⟩ := hc j d hd
    exact ⟨c, by rw [cell?_of_heap (h.st b hb).2]; exact h1, hrep _ _ h2⟩
  | ptr o off cs hg =>
    simp only [ren, hg]
    cases hgo : g.get o with
    | none => exact .undef _
    | some y =>
      obtain ⟨h1, h2⟩ := h.obj o y _ hgo hg
      rw [← h2]
      exact .ptr _ _ _ h1
  | own v o ver n h1 ho =>
    simp only [ren]
    cases hr : renH g E.H o ver with
    | none => exact .undef _
    | some y => exact .own _ _ _ _ h1 (renH_ok h hr ho (fun s es hφ hR => ⟨by rw [hR.1, En.sl, En.sl, hφ], hR.2⟩))
  | eptr v o ver i off h1 ho =>
    simp only [ren]
    cases hr : renH g E.H o ver with
    | none => exact .undef _
    | some y => exact .eptr _ _ _ _ _ h1 (renH_ok h hr ho (fun s es hφ hR => ⟨by rw [hR.1, hφ], hR.2⟩))

theorem RO.hom {g : Gm} {E E' : En} (h : Hom g E E') {o : Nm} {y : Nm × Nat} {x : AObj} (hφ : E'.φ y.1 = E.φ o) (hb : E'.w.heap[(E.φ o).1]? = E.w.heap[(E.φ o).1]?) (hr : RO E o x) : RO E' y.1 (renO g E.H y.2 x) := by
  have hrep : ∀ v x, Rep E.w E.S v x → Rep E'.w E'.S v x := fun v x hx => hx.mono h.st
  cases x with
  | cells cs =>
    obtain ⟨c, ty, h1, h2, h3, h4⟩ := hr
    refine ⟨c, ty, by rw [hφ, hb]; exact h1, by rw [renL_eq]; simpa using h2, h3, fun k v a hv ha => ?_⟩
    rw [renL_eq, List.getElem?_map, Option.map_eq_some_iff] at ha
    obtain ⟨b, hb', rfl⟩ := ha
    exact (h4 k v b hv hb').hom h
  | arr e s v es =>
    obtain ⟨c, h1, h2, h3, h4, h5, h6⟩ := hr
    refine ⟨c, by rw [hφ, hb]; exact h1, by rw [hφ]; exact h2, by rw [hφ]; exact h3, by rw [hφ]; exact h4, h5, fun i x j d hx hd => ?_⟩
    obtain ⟨v, hv, hv2⟩ := h6 i x j d hx hd
    exact ⟨v, by rw [hφ]; exact hv, hrep _ _ hv2⟩
  | frz e s v es =>
    obtain ⟨h0, c, fz, h1, h3, h4, h5, h6⟩ := hr
    refine ⟨by rw [hφ]; exact (h.st _ h0).1, c, fz, by rw [hφ, hb]; exact h1, by rw [hφ]; exact h3, by rw [hφ]; exact h4, h5, fun i x j d hx hd => ?_⟩
    obtain ⟨v, hv, hv2⟩ := h6 i x j d hx hd
    exact ⟨v, by rw [hφ]; exact hv, hrep _ _ hv2⟩

theorem renO_live (g : Gm) (H : Hp) (nv : Nat) (x : AObj) : (renO g H nv x).live = x.live := by cases x <;> rfl

theorem Gm.get_mem : ∀ {g : Gm} {o : Nm} {y : Nm × Nat}, g.get o = some y → (o, y) ∈ g
  | [], _, _, h => by cases h
  | (p, x) :: r, o, y, h => by
    simp only [Gm.get] at h
    split at h
    · rename_i hp; subst hp; injection h with h; subst h; simp
    · exact List.mem_cons_of_mem _ (Gm.get_mem h)
theorem Gm.mem_get : ∀ {g : Gm} {o : Nm} {y : Nm × Nat}, (g.map (·.1)).Nodup → (o, y) ∈ g → g.get o = some y
  | [], _, _, _, h => by cases h
  | (p, x) :: r, o, y, hn, h => by
    simp only [List.map_cons, List.nodup_cons] at hn
    simp only [Gm.get]
    rcases List.mem_cons.1 h with h | h
    · injection h with h1 h2; subst h1 h2; simp
    · have hne : p ≠ o := fun e => hn.1 (e ▸ List.mem_map_of_mem h)
      rw [if_neg hne]
      exact Gm.mem_get hn.2 h

theorem renHp_get (g : Gm) (H : Hp) : ∀ (l : Gm), (l.map (·.2.1)).Nodup → ∀ p x', (renHp g H l).get p = some x' ↔ ∃ o nv x, (o, (p, nv)) ∈ l ∧ H.get o = some x ∧ x' = renO g H nv x
  | [], _, p, x' => by simp [renHp, Hp.get]
  | (o, y) :: r, hn, p, x' => by
    simp only [List.map_cons, List.nodup_cons] at hn
    have ih := renHp_get g H r hn.2 p x'
    have notin : ∀ o' nv, (o', (y.1, nv)) ∈ r → False := fun o' nv h => hn.1 (List.mem_map.2 ⟨_, h, rfl⟩)
    cases hx : H.get o with
    | none =>
      simp only [renHp, hx, ih]
      constructor
      · rintro ⟨o', nv, x, h1, h2, h3⟩; exact ⟨o', nv, x, List.mem_cons_of_mem _ h1, h2, h3⟩
      · rintro ⟨o', nv, x, h1, h2, h3⟩
        rcases List.mem_cons.1 h1 with h | h
        · injection h with ha hb; subst ha; rw [hx] at h2; cases h2
        · exact ⟨o', nv, x, h, h2, h3⟩
    | some z =>
      simp only [renHp, hx, Hp.get_cons]
      split
      · rename_i hp
        subst hp
        constructor
        · intro h; injection h with h; exact ⟨o, y.2, z, by simp, hx, h.symm⟩
        · rintro ⟨o', nv, x, h1, h2, h3⟩
          rcases List.mem_cons.1 h1 with h | h
          · injection h with ha hb
            subst ha
            have : y.2 = nv := by rw [← hb]
            subst this
            rw [hx] at h2; injection h2 with h2; subst h2; rw [h3]
          · exact (notin _ _ h).elim
      · rename_i hp
        rw [ih]
        constructor
        · rintro ⟨o', nv, x, h1, h2, h3⟩; exact ⟨o', nv, x, List.mem_cons_of_mem _ h1, h2, h3⟩
        · rintro ⟨o', nv, x, h1, h2, h3⟩
          rcases List.mem_cons.1 h1 with h | h
          · injection h with ha hb; exact absurd (by rw [← hb]) hp
          · exact ⟨o', nv, x, h, h2, h3⟩

def Gm.back : Gm → Nm → Option Nm
  | [], _ => none
  | (o, y) :: r, p => if y.1 = p then some o else Gm.back r p
theorem Gm.back_mem : ∀ {g : Gm} {o p : Nm} {nv : Nat}, (g.map (·.2.1)).Nodup → (o, (p, nv)) ∈ g → g.back p = some o
  | [], _, _, _, _, h => by cases h
  | (q, y) :: r, o, p, nv, hn, h => by
    simp only [List.map_cons, List.nodup_cons] at hn
    simp only [Gm.back]
    rcases List.mem_cons.1 h with h | h
    · injection h with h1 h2; subst h1 h2; simp
    · have hne : y.1 ≠ p := fun e => hn.1 (by rw [e]; exact List.mem_map.2 ⟨_, h, rfl⟩)
      rw [if_neg hne]
      exact Gm.back_mem hn.2 h

def renφ (g : Gm) (φ : Nm → Pl) : Nm → Pl := fun p => match g.back p with
  | some o => φ o
  | none => ⟨0, 0, 0⟩

/-- All under new names; what has none is forgotten. -/
def rehome (g : Gm) (E : En) : En := ⟨E.w, E.S, renφ g E.φ, renHp g E.H g⟩

theorem Gm.ok_keys {g : Gm} (h : g.ok = true) : (g.map (·.1)).Nodup ∧ (g.map (·.2.1)).Nodup := by
  simp [Gm.ok] at h; exact h

theorem rehome_hom {g : Gm} (hg : g.ok = true) (E : En) : Hom g E (rehome g E) := by
  obtain ⟨h1, h2⟩ := Gm.ok_keys hg
  refine ⟨fun b hb => ⟨hb, rfl⟩, fun o y x ho hx => ⟨(renHp_get g E.H g h2 y.1 _).2 ⟨o, y.2, x, Gm.get_mem ho, hx, rfl⟩, ?_⟩⟩
  show renφ g E.φ y.1 = _
  simp only [renφ, Gm.back_mem h2 (Gm.get_mem ho : (o, (y.1, y.2)) ∈ g)]

theorem rehome_src {g : Gm} (hg : g.ok = true) {E : En} {p : Nm} {x' : AObj} (h : (rehome g E).H.get p = some x') : ∃ o nv x, g.get o = some (p, nv) ∧ E.H.get o = some x ∧ x' = renO g E.H nv x ∧ (rehome g E).φ p = E.φ o := by
  obtain ⟨h1, h2⟩ := Gm.ok_keys hg
  obtain ⟨o, nv, x, ho, hx, rfl⟩ := (renHp_get g E.H g h2 p _).1 h
  have hgo := Gm.mem_get h1 ho
  exact ⟨o, nv, x, hgo, hx, rfl, ((rehome_hom hg E).obj o _ x hgo hx).2⟩

theorem rehome_ok {g : Gm} (hg : g.ok = true) {E : En} (I : Inv E) : Inv (rehome g E) ∧ Step E (rehome g E) := by
  have hom := rehome_hom hg E
  refine ⟨⟨fun p x' hp => ?_, fun p q x y hp hq hx hy hb => ?_, fun p x hp hx => ?_, I.sin⟩, ⟨rfl, rfl, rfl, Nat.le_refl _, fun _ _ _ => rfl, fun b hb => hb, fun b hb _ => ?_⟩⟩
  · obtain ⟨o, nv, x, h1, h2, rfl, h3⟩ := rehome_src hg hp
    exact RO.hom hom (y := (p, nv)) h3 rfl (I.obj o x h2)
  · obtain ⟨o, nv, x, h1, h2, rfl, h3⟩ := rehome_src hg hp
    obtain ⟨o', nv', x', h1', h2', rfl, h3'⟩ := rehome_src hg hq
    rw [renO_live] at hx hy
    have e : o = o' := I.dist o o' x x' h2 h2' hx hy (by rw [← h3, ← h3']; exact hb)
    subst e
    rw [h1] at h1'
    injection h1' with h1'
    injection h1'
  · obtain ⟨o, nv, x, h1, h2, rfl, h3⟩ := rehome_src hg hp
    rw [renO_live] at hx
    rw [h3]
    exact I.free o x h2 hx
  · rcases hb with h | ⟨p, x, hp, hx, hb⟩
    · exact .inl h
    · obtain ⟨o, nv, x, h1, h2, rfl, h3⟩ := rehome_src hg hp
      rw [renO_live] at hx
      exact .inr ⟨o, x, h2, hx, by rw [← h3]; exact hb⟩
end Go.Rx
end
section
namespace Go.Rx
open Go Go.RowKit
set_option linter.unusedVariables false
set_option linter.unusedSimpArgs false

inductive Res where
  | ret (a : AV)
  | pan (a : AV)

abbrev Ic := FuncId → List AV → Hp → Option (Res × Hp)

structure Cfg where
  keep : FuncId → Nat → List Nat
  ownA : FuncId → List Nat
  ownR : FuncId → Bool
  ext : FuncId → Option (List AV → Hp → Option (Res × Hp)) := fun _ => none
  keepX : FuncId → Nat → Option (List Nat) := fun _ _ => none
  panR : Bool := false

def ROk (E : En) : Ending → Res → Prop
  | .returned v, .ret a => RV E v a
  | .panicked chain, .pan a => ∃ v, chain = [{ v, recovered := false }] ∧ RV E v a
  | _, _ => False

def rowOf : AObj → Option (Nat × Nat × List (List D))
  | .arr _ s v es => some (s, v, es)
  | .frz _ s v es => some (s, v, es)
  | .cells _ => none
/-- The rows among these names lie where they lay; of those that grow: if their version is 0. -/
def Pin (N : Nm → Prop) (E E' : En) : Prop := ∀ o, N o → (∀ cs, E.H.get o = some (.cells cs) → ∃ cs', E'.H.get o = some (.cells cs') ∧ E'.φ o = E.φ o) ∧
  ∀ x r, E.H.get o = some x → rowOf x = some r → ∃ x' r', E'.H.get o = some x' ∧ rowOf x' = some r' ∧ (r'.2.1 = 0 → r.2.1 = 0 ∧ r'.1 = r.1 ∧ E'.φ o = E.φ o ∧ r.2.2.length ≤ r'.2.2.length)
theorem Pin.refl (N : Nm → Prop) (E : En) : Pin N E E := fun o _ => ⟨fun cs h => ⟨cs, h, rfl⟩, fun x r hx hr => ⟨x, r, hx, hr, fun h => ⟨h, rfl, rfl, Nat.le_refl _⟩⟩⟩
theorem Pin.trans {N : Nm → Prop} {E E' E'' : En} (h : Pin N E E') (k : Pin N E' E'') : Pin N E E'' := fun o ho => by
  refine ⟨fun cs hg => ?_, fun x r hx hr => ?_⟩
  · obtain ⟨cs', h1, h2⟩ := (h o ho).1 cs hg
    obtain ⟨cs'', k1, k2⟩ := (k o ho).1 cs' h1
    exact ⟨cs'', k1, k2.trans h2⟩
  · obtain ⟨x', r', h1, h2, h3⟩ := (h o ho).2 x r hx hr
    obtain ⟨x'', r'', k1, k2, k3⟩ := (k o ho).2 x' r' h1 h2
    refine ⟨x'', r'', k1, k2, fun h0 => ?_⟩
    obtain ⟨a1, a2, a3, a4⟩ := k3 h0
    obtain ⟨b1, b2, b3, b4⟩ := h3 a1
    exact ⟨b1, a2.trans b2, a3.trans b3, Nat.le_trans b4 a4⟩
theorem Fit.pin {E E' : En} (h : Fit E E') (N : Nm → Prop) : Pin N E E' := fun o _ => by
  refine ⟨fun cs hg => ?_, fun x r hg hr => ?_⟩
  · obtain ⟨x', h1, h2⟩ := h.hm o _ hg
    cases x' with
    | cells cs' => exact ⟨cs', h1, h2⟩
    | arr => exact h2.elim
    | frz => exact h2.elim
  · obtain ⟨x', h1, h2⟩ := h.hm o _ hg
    have key : ∀ s v es s' v' es', r = (s, v, es) → rowOf x' = some (s', v', es') → (v ≤ v' ∧ (v = v' → s' = s ∧ E'.φ o = E.φ o ∧ es.length ≤ es'.length)) →
        ∃ x' r', E'.H.get o = some x' ∧ rowOf x' = some r' ∧ (r'.2.1 = 0 → r.2.1 = 0 ∧ r'.1 = r.1 ∧ E'.φ o = E.φ o ∧ r.2.2.length ≤ r'.2.2.length) := fun s v es s' v' es' e1 e2 ⟨c1, c2⟩ => by
      subst e1
      refine ⟨x', _, h1, e2, fun h0 => ?_⟩
      have h0' : v' = 0 := h0
      have hv : v = 0 := by omega
      obtain ⟨d1, d2, d3⟩ := c2 (by omega)
      exact ⟨hv, d1, d2, d3⟩
    cases x with
    | cells cs => cases hr
    | arr e s v es =>
      injection hr with hr
      cases x' with
      | cells cs => exact h2.elim
      | arr e' s' v' es' => exact key _ _ _ _ _ _ hr.symm rfl h2
      | frz e' s' v' es' => exact key _ _ _ _ _ _ hr.symm rfl h2
    | frz e s v es =>
      injection hr with hr
      cases x' with
      | cells cs => exact h2.elim
      | arr e' s' v' es' => exact h2.elim
      | frz e' s' v' es' => exact key _ _ _ _ _ _ hr.symm rfl h2

def ArgsOk (E : En) (vs : List Value) (args : List AV) : Prop := vs.length = args.length ∧ ∀ (i : Nat) (v : Value) (a : AV), vs[i]? = some v → args[i]? = some a → RV E v a

def FnOk (P : Program) (f : FuncId) (g : List AV → Hp → Option (Res × Hp)) : Prop := ∀ args H res H', g args H = some (res, H') → ∀ (E : En) (vs : List Value), Inv E → E.H = H → ArgsOk E vs args →
  Calls P f vs.toArray E.w (fun e w' => ∃ E', E'.w = w' ∧ Inv E' ∧ E'.H = H' ∧ Step E E' ∧ ROk E' e res ∧ Pin (fun _ => True) E E')
def IcOk (P : Program) (ic : Ic) : Prop := ∀ f args H res H', ic f args H = some (res, H') → ∀ (E : En) (vs : List Value), Inv E → E.H = H → ArgsOk E vs args →
  Calls P f vs.toArray E.w (fun e w' => ∃ E', E'.w = w' ∧ Inv E' ∧ E'.H = H' ∧ Step E E' ∧ ROk E' e res ∧ Pin (fun _ => True) E E')

/-- A value is handed on as plain data. -/
def sealC (H : Hp) (a : AV) : AV × Hp :=
  match a with
  | .nilsl => (.d (.list []), H)
  | .own o ver n => match seal1 H (.own o ver n) with
    | some x => (.d x.1, x.2)
    | none => (a, H)
  | a => (a, H)
def sealCs : Hp → List AV → List AV × Hp
  | H, [] => ([], H)
  | H, a :: r => ((sealC H a).1 :: (sealCs (sealC H a).2 r).1, (sealCs (sealC H a).2 r).2)
def sealV (H : Hp) (a : AV) : AV × Hp :=
  match a with
  | .agg vs => (.agg (sealCs H vs).1, (sealCs H vs).2)
  | a => sealC H a
def sealArgs (own : List Nat) : Nat → Hp → List AV → List AV × Hp
  | _, H, [] => ([], H)
  | i, H, a :: r => if own.contains i then (a :: (sealArgs own (i + 1) H r).1, (sealArgs own (i + 1) H r).2)
    else ((sealV H a).1 :: (sealArgs own (i + 1) (sealV H a).2 r).1, (sealArgs own (i + 1) (sealV H a).2 r).2)

theorem sealC_ok {E : En} (I : Inv E) {v : Value} {a : AV} (h : RV E v a) : ∃ E', E'.w = E.w ∧ E'.H = (sealC E.H a).2 ∧ Inv E' ∧ Step E E' ∧ Fit E E' ∧ RV E' v (sealC E.H a).1 := by
  cases a <;> first
    | exact ⟨E, rfl, rfl, I, .refl E, .refl E, h⟩
    | skip
  · cases h; exact ⟨E, rfl, rfl, I, .refl E, .refl E, .d _ _ (.empty _ _ (by unfold maxLen; omega))⟩
  · rename_i o ver n
    simp only [sealC]
    cases hs : seal1 E.H (.own o ver n) with
    | none => exact ⟨E, rfl, rfl, I, .refl E, .refl E, h⟩
    | some x =>
      obtain ⟨E', h1, h2, h3, h4, h5, h6⟩ := seal1_ok (x := x.1) (H' := x.2) I h hs
      exact ⟨E', h1, h2, h3, h4, h5, .d _ _ h6⟩
theorem sealCs_ok {E : En} (I : Inv E) {vs : List Value} {as : List AV} (h : ArgsOk E vs as) : ∃ E', E'.w = E.w ∧ E'.H = (sealCs E.H as).2 ∧ Inv E' ∧ Step E E' ∧ Fit E E' ∧ ArgsOk E' vs (sealCs E.H as).1 := by
  induction as generalizing E vs with
  | nil => exact ⟨E, rfl, rfl, I, .refl E, .refl E, h⟩
  | cons a r ih =>
    obtain ⟨hl, hr⟩ := h
    cases vs with
    | nil => simp at hl
    | cons v vs =>
      obtain ⟨E1, a1, a2, a3, a4, a5, a6⟩ := sealC_ok I (hr 0 v a rfl rfl)
      obtain ⟨E2, b1, b2, b3, b4, b5, b6⟩ := ih a3 (vs := vs) ⟨by simpa using hl, fun i v a hv ha => (hr (i + 1) v a hv ha).mono a5⟩
      simp only [sealCs]
      rw [a2] at b2 b6
      refine ⟨E2, b1.trans a1, b2, b3, a4.trans a3 b4, a5.trans b5, by simp [b6.1], fun i w b hw hb => ?_⟩
      cases i with
      | zero => simp at hw hb; subst hw hb; exact a6.mono b5
      | succ i => exact b6.2 i w b (by simpa using hw) (by simpa using hb)
theorem sealV_ok {E : En} (I : Inv E) {v : Value} {a : AV} (h : RV E v a) : ∃ E', E'.w = E.w ∧ E'.H = (sealV E.H a).2 ∧ Inv E' ∧ Step E E' ∧ Fit E E' ∧ RV E' v (sealV E.H a).1 := by
  cases a <;> first
    | exact sealC_ok I h
    | skip
  cases h with
  | agg cs vs hl h1 hr =>
  obtain ⟨E', a1, a2, a3, a4, a5, a6⟩ := sealCs_ok I ⟨hl, hr⟩
  exact ⟨E', a1, a2, a3, a4, a5, .agg cs _ a6.1 h1 a6.2⟩
theorem sealArgs_ok {own : List Nat} {E : En} (I : Inv E) {vs : List Value} {as : List AV} (i : Nat) (h : ArgsOk E vs as) : ∃ E', E'.w = E.w ∧ E'.H = (sealArgs own i E.H as).2 ∧ Inv E' ∧ Step E E' ∧ Fit E E' ∧ ArgsOk E' vs (sealArgs own i E.H as).1 := by
  induction as generalizing E vs i with
  | nil => exact ⟨E, rfl, rfl, I, .refl E, .refl E, h⟩
  | cons a r ih =>
    obtain ⟨hl, hr⟩ := h
    cases vs with
    | nil => simp at hl
    | cons v vs =>
      simp only [sealArgs]
      split
      · obtain ⟨E2, b1, b2, b3, b4, b5, b6⟩ := ih I (vs := vs) (i + 1) ⟨by simpa using hl, fun i v a hv ha => hr (i + 1) v a hv ha⟩
        refine ⟨E2, b1, b2, b3, b4, b5, by simp [b6.1], fun i w b hw hb => ?_⟩
        cases i with
        | zero => simp at hw hb; subst hw hb; exact (hr 0 v a rfl rfl).mono b5
        | succ i => exact b6.2 i w b (by simpa using hw) (by simpa using hb)
      · obtain ⟨E1, a1, a2, a3, a4, a5, a6⟩ := sealV_ok I (hr 0 v a rfl rfl)
        obtain ⟨E2, b1, b2, b3, b4, b5, b6⟩ := ih a3 (vs := vs) (i + 1) ⟨by simpa using hl, fun i v a hv ha => (hr (i + 1) v a hv ha).mono a5⟩
        rw [a2] at b2 b6
        refine ⟨E2, b1.trans a1, b2, b3, a4.trans a3 b4, a5.trans b5, by simp [b6.1], fun i w b hw hb => ?_⟩
        cases i with
        | zero => simp at hw hb; subst hw hb; exact a6.mono b5
        | succ i => exact b6.2 i w b (by simpa using hw) (by simpa using hb)

/-- The handles in a value that stands at a place, with the names by that place. -/
def hd1 (p : Nm) : AV → List (Nm × Nm)
  | .own o _ _ => [(o, p)]
  | .ptr o _ => [(o, p)]
  | .eptr o _ _ _ => [(o, p)]
  | _ => []
def hdL (p : Nm) : Nat → List AV → List (Nm × Nm)
  | _, [] => []
  | k, a :: r => hd1 (.cell p k) a ++ hdL p (k + 1) r
def hds (p : Nm) : AV → List (Nm × Nm)
  | .agg vs => hdL p 0 vs
  | .tuple vs => hdL p 0 vs
  | .fn _ vs => hdL p 0 vs
  | .iface _ (.agg vs) => hdL p 0 vs
  | a => hd1 p a
def hdArgs (mk : Nat → Nm) : Nat → List AV → List (Nm × Nm)
  | _, [] => []
  | i, a :: r => hds (mk i) a ++ hdArgs mk (i + 1) r
/-- What is come to from there: old name, new name. -/
def gather (H : Hp) : Nat → List (Nm × Nm) → List (Nm × Nm) → List (Nm × Nm)
  | 0, _, seen => seen
  | _, [], seen => seen
  | k + 1, (o, p) :: todo, seen => if seen.any (fun x => decide (x.1 = o)) then gather H k todo seen else
    match H.get o with
    | some (.cells cs) => gather H k (todo ++ hdL p 0 cs) (seen ++ [(o, p)])
    | some _ => gather H k todo (seen ++ [(o, p)])
    | none => gather H k todo seen

def gArgs (H : Hp) (args : List AV) : Gm := (gather H 200 (hdArgs .arg 0 args) []).map fun x => (x.1, (x.2, 0))

/-- The way back: a name of the callee's, in the caller's. -/
def backNm (g : Gm) (dst : Nat) : Nm → Nm
  | .res i => .cell (.res dst) i
  | .cell p k => match g.back p with
    | some o => .cell o k
    | none => .cell p k
  | p => p
def isZ : Nat → Bool
  | 0 => true
  | _ + 1 => false
theorem isZ_eq (v : Nat) : isZ v = (v == 0) := by cases v <;> rfl
def ver0 : Option AObj → Bool
  | some (.arr _ _ v _) => isZ v
  | some (.frz _ _ v _) => isZ v
  | _ => false
def newVer (H : Hp) (y : Option AObj) (o : Nm) : Nat :=
  match H.get o with
  | some (.arr _ _ v _) => if ver0 y then v else v + 1
  | some (.frz _ _ v _) => if ver0 y then v else v + 1
  | _ => 0
def gBack (g : Gm) (dst : Nat) (H1 H3 : Hp) : Gm := H3.map fun x => match g.back x.1 with
  | some o => (x.1, (o, newVer H1 (H3.get x.1) o))
  | none => (x.1, (backNm g dst x.1, 0))

def kindOk (x : AObj) (y : Option AObj) : Bool :=
  match x, y with
  | .cells _, some (.cells _) => true
  | .arr .., some (.arr ..) => true
  | .arr .., some (.frz ..) => true
  | .frz .., some (.frz ..) => true
  | _, _ => false
/-- All that was handed on has come back; what is new is new. -/
def backOk (g : Gm) (b : Gm) (H1 H3 : Hp) : Bool :=
  b.ok && (g.all fun x => decide (b.get x.2.1 = some (x.1, newVer H1 (H3.get x.2.1) x.1)) && (match H1.get x.1 with
    | some y => kindOk y (H3.get x.2.1)
    | none => false)) && (b.all fun x => (g.back x.1).isSome || (H1.get x.2.1).isNone) && (b.all fun x => match g.back x.1 with
    | some o => decide (x.2.1 = o)
    | none => true)

def dropP (g : Gm) (H : Hp) : Hp := H.filter fun x => (g.get x.1).isNone
theorem dropP_get (g : Gm) (H : Hp) (o : Nm) : (dropP g H).get o = if (g.get o).isNone then H.get o else none := by
  induction H with
  | nil => simp [dropP, Hp.get]
  | cons x r ih =>
    obtain ⟨p, y⟩ := x
    unfold dropP at ih ⊢
    rw [List.filter_cons]
    split
    · rename_i hp
      simp only [Hp.get_cons, ih]
      split
      · rename_i he; subst he; simp only [hp, if_true]
      · rfl
    · rename_i hp
      rw [ih]
      simp only [Hp.get_cons]
      by_cases he : (g.get o).isNone = true
      · rw [if_pos he, if_pos he, if_neg (fun h2 : p = o => hp (by subst h2; exact he))]
      · rw [if_neg he, if_neg he]
theorem Hp.get_append (A B : Hp) (o : Nm) : Hp.get (A ++ B) o = match A.get o with | some x => some x | none => B.get o := by
  induction A with
  | nil => rfl
  | cons x r ih =>
    obtain ⟨p, y⟩ := x
    simp only [List.cons_append, Hp.get_cons]
    split
    · rfl
    · exact ih

def mapRes (f : AV → AV) : Res → Res
  | .ret a => .ret (f a)
  | .pan a => .pan (f a)

def callA (cfg : Cfg) (ic : Ic) (dst : Nat) (f : FuncId) (args : List AV) (H : Hp) : Option (Res × Hp) :=
  let s := sealArgs (cfg.ownA f) 0 H args
  let g := gArgs s.2 s.1
  if g.ok then (ic f (renL g s.2 s.1) (renHp g s.2 g)).bind fun r =>
    let b := gBack g dst s.2 r.2
    if backOk g b s.2 r.2 then some (mapRes (ren b r.2) r.1, renHp b r.2 b ++ dropP g s.2) else none
  else none

/-- Back at the caller's. -/
theorem merge_ok {E1 E3 : En} {g b : Gm} (hg : g.ok = true) (I1 : Inv E1) (I3 : Inv E3) (S : Step (rehome g E1) E3) (hpin : Pin (fun _ => True) (rehome g E1) E3) (hb : backOk g b E1.H E3.H = true) :
    ∃ E4, E4.w = E3.w ∧ E4.H = renHp b E3.H b ++ dropP g E1.H ∧ Inv E4 ∧ Step E1 E4 ∧ Fit E1 E4 ∧ Hom b E3 E4 := by
  simp only [backOk, Bool.and_eq_true, List.all_eq_true] at hb
  obtain ⟨⟨⟨hbo, hall⟩, hfresh⟩, hsame⟩ := hb
  obtain ⟨gk, gn⟩ := Gm.ok_keys hg
  obtain ⟨bk, bn⟩ := Gm.ok_keys hbo
  obtain ⟨I2, S2⟩ := rehome_ok hg I1
  have homg := rehome_hom hg E1
  -- what was handed on
  have passed : ∀ o y, g.get o = some y → ∃ x z, y.2 = y.2 ∧ b.get y.1 = some (o, newVer E1.H (E3.H.get y.1) o) ∧ E1.H.get o = some x ∧ E3.H.get y.1 = some z ∧ kindOk x (some z) = true := fun o y ho => by
    have h1 := hall (o, y) (Gm.get_mem ho)
    simp only [decide_eq_true_eq] at h1
    obtain ⟨h1, h2⟩ := h1
    cases hx : E1.H.get o with
    | none => rw [hx] at h2; cases h2
    | some x =>
      rw [hx] at h2
      cases hz : E3.H.get y.1 with
      | none => simp only [hz] at h2; cases x <;> cases h2
      | some z => exact ⟨x, z, rfl, by rw [hz] at h1; exact h1, rfl, rfl, by simpa [hz] using h2⟩
  -- a new name is a handed-on one or a fresh one
  have news : ∀ p q nv, b.get p = some (q, nv) → (∃ nv', g.get q = some (p, nv')) ∨ E1.H.get q = none := fun p q nv hp => by
    have hm := Gm.get_mem hp
    have h1 := hfresh _ hm
    have h2 := hsame _ hm
    simp only [] at h1 h2
    cases hbk : g.back p with
    | none => rw [hbk] at h1; simp at h1; exact .inr h1
    | some o =>
      rw [hbk] at h2
      simp at h2
      subst h2
      refine .inl ?_
      clear h1 hall hfresh hsame passed
      have key : ∀ (l : Gm) (o' : Nm), l.back p = some o' → ∃ nv', (o', (p, nv')) ∈ l := fun l => by
        induction l with
        | nil => intro o' h; cases h
        | cons x r ih =>
          intro o' h
          obtain ⟨a, y⟩ := x
          simp only [Gm.back] at h
          split at h
          · rename_i he; injection h with h; subst h; exact ⟨y.2, by rw [← he]; simp⟩
          · obtain ⟨nv', h'⟩ := ih o' h; exact ⟨nv', List.mem_cons_of_mem _ h'⟩
      obtain ⟨nv', hm'⟩ := key g q hbk
      exact ⟨nv', Gm.mem_get gk hm'⟩
  let φ4 : Nm → Pl := fun q => match b.back q with
    | some p => E3.φ p
    | none => E1.φ q
  let E4 : En := ⟨E3.w, E3.S, φ4, renHp b E3.H b ++ dropP g E1.H⟩
  -- where an object of the caller's comes from
  have from' : ∀ q x', E4.H.get q = some x' → (∃ p nv x, b.get p = some (q, nv) ∧ E3.H.get p = some x ∧ x' = renO b E3.H nv x ∧ φ4 q = E3.φ p) ∨ (g.get q = none ∧ E1.H.get q = some x' ∧ φ4 q = E1.φ q) := fun q x' hq => by
    have hq' : Hp.get (renHp b E3.H b ++ dropP g E1.H) q = some x' := hq
    rw [Hp.get_append] at hq'
    cases hm : (renHp b E3.H b).get q with
    | some y =>
      rw [hm] at hq'
      injection hq' with hq'
      subst hq'
      obtain ⟨p, nv, x, h1, h2, h3⟩ := (renHp_get b E3.H b bn q _).1 hm
      refine .inl ⟨p, nv, x, Gm.mem_get bk h1, h2, h3, ?_⟩
      show (match b.back q with | some p => E3.φ p | none => E1.φ q) = _
      rw [Gm.back_mem bn h1]
    | none =>
      rw [hm] at hq'
      simp only [dropP_get] at hq'
      split at hq'
      · rename_i hgq
        have hgq' : g.get q = none := by simpa using hgq
        refine .inr ⟨hgq', hq', ?_⟩
        show (match b.back q with | some p => E3.φ p | none => E1.φ q) = _
        cases hbq : b.back q with
        | none => rfl
        | some p =>
          exfalso
          have key : ∀ (l : Gm) (p' : Nm), l.back q = some p' → ∃ nv', (p', (q, nv')) ∈ l := fun l => by
            induction l with
            | nil => intro o' h; cases h
            | cons x r ih =>
              intro o' h
              obtain ⟨a, y⟩ := x
              simp only [Gm.back] at h
              split at h
              · rename_i he; injection h with h; subst h; exact ⟨y.2, by rw [← he]; simp⟩
              · obtain ⟨nv', h'⟩ := ih o' h; exact ⟨nv', List.mem_cons_of_mem _ h'⟩
          obtain ⟨nv', hm'⟩ := key b p hbq
          rcases news p q nv' (Gm.mem_get bk hm') with ⟨nv2, h⟩ | h
          · rw [hgq'] at h; cases h
          · rw [hq'] at h; cases h
      · cases hq'
  have hom : Hom b E3 E4 := by
    refine ⟨fun b hb => ⟨hb, rfl⟩, fun p y x hp hx => ⟨?_, ?_⟩⟩
    · show Hp.get (renHp b E3.H b ++ dropP g E1.H) y.1 = _
      rw [Hp.get_append, (renHp_get b E3.H b bn y.1 _).2 ⟨p, y.2, x, Gm.get_mem hp, hx, rfl⟩]
    · show (match b.back y.1 with | some p => E3.φ p | none => E1.φ y.1) = _
      rw [Gm.back_mem bn (Gm.get_mem hp : (p, (y.1, y.2)) ∈ b)]
  -- the rest of the caller's is as it was
  have owns2 : ∀ blk, Owns (rehome g E1) blk → ∃ o y x, g.get o = some y ∧ E1.H.get o = some x ∧ x.live = true ∧ (E1.φ o).1 = blk := fun blk ⟨p, x', hp, hx, hb⟩ => by
    obtain ⟨o, nv, x, h1, h2, rfl, h3⟩ := rehome_src hg hp
    rw [renO_live] at hx
    exact ⟨o, _, x, h1, h2, hx, by rw [← h3]; exact hb⟩
  have restblk : ∀ q x, g.get q = none → E1.H.get q = some x → E3.w.heap[(E1.φ q).1]? = E1.w.heap[(E1.φ q).1]? := fun q x hq hx => by
    refine S.keep _ (I1.obj q x hx).lt (fun ho => ?_)
    obtain ⟨o, y, z, h1, h2, h3, h4⟩ := owns2 _ ho
    cases hl : x.live with
    | true =>
      have := I1.dist o q z x h2 hx h3 hl h4
      subst this
      rw [hq] at h1; cases h1
    | false =>
      cases x with
      | frz e s v es =>
        obtain ⟨h0, _⟩ := I1.obj q _ hx
        exact I1.free o z h2 h3 (h4 ▸ h0)
      | cells cs => cases hl
      | arr e s v es => cases hl
  have st1 : ∀ blk, E1.S blk → E3.S blk ∧ E3.w.heap[blk]? = E1.w.heap[blk]? := fun blk hS => Step.st I2 S blk hS
  have fit : Fit E1 E4 := by
    refine ⟨st1, fun o x hx => ?_⟩
    cases hgo : g.get o with
    | none =>
      refine ⟨x, ?_, ?_⟩
      · show Hp.get (renHp b E3.H b ++ dropP g E1.H) o = some x
        rw [Hp.get_append]
        cases hm : (renHp b E3.H b).get o with
        | none => simp only [dropP_get, hgo]; simpa using hx
        | some y =>
          exfalso
          obtain ⟨p, nv, z, h1, h2, h3⟩ := (renHp_get b E3.H b bn o _).1 hm
          rcases news p o nv (Gm.mem_get bk h1) with ⟨nv2, h⟩ | h
          · rw [hgo] at h; cases h
          · rw [hx] at h; cases h
      · rcases from' o x (by
          show Hp.get (renHp b E3.H b ++ dropP g E1.H) o = some x
          rw [Hp.get_append]
          cases hm : (renHp b E3.H b).get o with
          | none => simp only [dropP_get, hgo]; simpa using hx
          | some y =>
            exfalso
            obtain ⟨p, nv, z, h1, h2, h3⟩ := (renHp_get b E3.H b bn o _).1 hm
            rcases news p o nv (Gm.mem_get bk h1) with ⟨nv2, h⟩ | h
            · rw [hgo] at h; cases h
            · rw [hx] at h; cases h) with ⟨p, nv, z, h1, h2, h3, h4⟩ | ⟨h1, h2, h3⟩
        · exfalso
          rcases news p o nv h1 with ⟨nv2, h⟩ | h
          · rw [hgo] at h; cases h
          · rw [hx] at h; cases h
        · exact Compat.self h3 x
    | some y =>
      obtain ⟨x1, z, _, h1, h2, h3, h4⟩ := passed o y hgo
      rw [hx] at h2
      injection h2 with h2
      subst h2
      obtain ⟨k1, k2⟩ := hom.obj y.1 _ z h1 h3
      refine ⟨_, k1, ?_⟩
      cases x with
      | cells cs =>
        cases z with
        | cells cs' =>
          obtain ⟨r1, r2⟩ := homg.obj o y _ hgo hx
          obtain ⟨cs'', p1, p2⟩ := (hpin y.1 trivial).1 _ r1
          show E4.φ o = E1.φ o
          rw [k2, p2, r2]
        | arr => cases h4
        | frz => cases h4
      | arr e s v es =>
        obtain ⟨r1, r2⟩ := homg.obj o y _ hgo hx
        obtain ⟨x'', r', p1, p2, p3⟩ := (hpin y.1 trivial).2 _ _ r1 rfl
        rw [h3] at p1
        injection p1 with p1
        subst p1
        have hnv : newVer E1.H (E3.H.get y.1) o = if ver0 (some z) then v else v + 1 := by simp [newVer, hx, h3]
        have hφ : E4.φ o = E3.φ y.1 := k2
        cases z with
        | cells => cases h4
        | arr e' s' v' es' =>
          injection p2 with p2
          subst p2
          refine ⟨by rw [hnv]; split <;> omega, fun h => ?_⟩
          rw [hnv] at h
          split at h
          · rename_i hv
            obtain ⟨q1, q2, q3, q4⟩ := p3 (by simpa [ver0, isZ_eq] using hv)
            exact ⟨q2, by rw [hφ, q3, r2], q4⟩
          · omega
        | frz e' s' v' es' =>
          injection p2 with p2
          subst p2
          refine ⟨by rw [hnv]; split <;> omega, fun h => ?_⟩
          rw [hnv] at h
          split at h
          · rename_i hv
            obtain ⟨q1, q2, q3, q4⟩ := p3 (by simpa [ver0, isZ_eq] using hv)
            exact ⟨q2, by rw [hφ, q3, r2], q4⟩
          · omega
      | frz e s v es =>
        obtain ⟨r1, r2⟩ := homg.obj o y _ hgo hx
        obtain ⟨x'', r', p1, p2, p3⟩ := (hpin y.1 trivial).2 _ _ r1 rfl
        rw [h3] at p1
        injection p1 with p1
        subst p1
        have hnv : newVer E1.H (E3.H.get y.1) o = if ver0 (some z) then v else v + 1 := by simp [newVer, hx, h3]
        have hφ : E4.φ o = E3.φ y.1 := k2
        cases z with
        | cells => cases h4
        | arr => cases h4
        | frz e' s' v' es' =>
          injection p2 with p2
          subst p2
          refine ⟨by rw [hnv]; split <;> omega, fun h => ?_⟩
          rw [hnv] at h
          split at h
          · rename_i hv
            obtain ⟨q1, q2, q3, q4⟩ := p3 (by simpa [ver0, isZ_eq] using hv)
            exact ⟨q2, by rw [hφ, q3, r2], q4⟩
          · omega
  have restlive : ∀ q x, g.get q = none → E1.H.get q = some x → x.live = true → ¬ E3.S (E1.φ q).1 ∧ ¬ Owns E3 (E1.φ q).1 := fun q x hq hx hl => by
    have no2 : ¬ Owns (rehome g E1) (E1.φ q).1 := fun ho => by
      obtain ⟨o, y, z, h1, h2, h3, h4⟩ := owns2 _ ho
      have := I1.dist o q z x h2 hx h3 hl h4
      subst this
      rw [hq] at h1; cases h1
    have noS : ¬ E1.S (E1.φ q).1 := I1.free q x hx hl
    have hlt := (I1.obj q x hx).lt
    exact ⟨fun h => by rcases S.new _ (.inl h) hlt with h | h; · exact noS h
                       · exact no2 h,
           fun h => by rcases S.new _ (.inr h) hlt with h | h; · exact noS h
                       · exact no2 h⟩
  refine ⟨E4, rfl, rfl, ⟨fun q x' hq => ?_, fun q r x y hq hr hx hy hb => ?_, fun q x' hq hl => ?_, I3.sin⟩, ⟨S.os, S.tape, S.output, S.size, fun blk hlt hno => ?_, fun blk h => (st1 blk h).1, fun blk h hlt => ?_⟩, fit, hom⟩
  · rcases from' q x' hq with ⟨p, nv, x, h1, h2, rfl, h4⟩ | ⟨h1, h2, h3⟩
    · exact RO.hom hom (y := (q, nv)) h4 rfl (I3.obj p x h2)
    · exact (I1.obj q x' h2).mono fit h3 (restblk q x' h1 h2)
  · have hb' : (φ4 q).1 = (φ4 r).1 := hb
    rcases from' q x hq with ⟨p, nv, z, h1, h2, rfl, h4⟩ | ⟨h1, h2, h3⟩
    · rw [renO_live] at hx
      rcases from' r y hr with ⟨p', nv', z', h1', h2', rfl, h4'⟩ | ⟨h1', h2', h3'⟩
      · rw [renO_live] at hy
        have e : p = p' := I3.dist p p' z z' h2 h2' hx hy (by rw [← h4, ← h4']; exact hb')
        subst e
        rw [h1] at h1'
        injection h1' with h1'
        injection h1'
      · exact ((restlive r y h1' h2' hy).2 ⟨p, z, h2, hx, by rw [← h4, hb', h3']⟩).elim
    · rcases from' r y hr with ⟨p', nv', z', h1', h2', rfl, h4'⟩ | ⟨h1', h2', h3'⟩
      · rw [renO_live] at hy
        exact ((restlive q x h1 h2 hx).2 ⟨p', z', h2', hy, by rw [← h4', ← hb', h3]⟩).elim
      · exact I1.dist q r x y h2 h2' hx hy (by rw [← h3, ← h3']; exact hb')
  · show ¬ E3.S (φ4 q).1
    rcases from' q x' hq with ⟨p, nv, z, h1, h2, rfl, h4⟩ | ⟨h1, h2, h3⟩
    · rw [renO_live] at hl
      rw [h4]; exact I3.free p z h2 hl
    · rw [h3]; exact (restlive q x' h1 h2 hl).1
  · refine S.keep blk hlt (fun ho => hno ?_)
    obtain ⟨o, y, z, h1, h2, h3, h4⟩ := owns2 _ ho
    exact ⟨o, z, h2, h3, h4⟩
  · have key : E3.S blk ∨ Owns E3 blk → E1.S blk ∨ Owns E1 blk := fun h => by
      rcases S.new blk h hlt with h | h
      · exact .inl h
      · obtain ⟨o, y, z, h1, h2, h3, h4⟩ := owns2 _ h
        exact .inr ⟨o, z, h2, h3, h4⟩
    rcases h with h | ⟨q, x, hq, hx, hbq⟩
    · exact key (.inl h)
    · have hbq' : (φ4 q).1 = blk := hbq
      rcases from' q x hq with ⟨p, nv, z, h1, h2, rfl, h4⟩ | ⟨h1, h2, h3⟩
      · rw [renO_live] at hx
        exact key (.inr ⟨p, z, h2, hx, by rw [← h4]; exact hbq'⟩)
      · exact .inr ⟨q, x, h2, hx, by rw [← h3]; exact hbq'⟩

theorem callA_ok {P : Program} {cfg : Cfg} {ic : Ic} (hic : IcOk P ic) {E : En} (I : Inv E) {dst : Nat} {f : FuncId} {vs : List Value} {args : List AV} {res : Res} {H' : Hp} (ha : ArgsOk E vs args) (h : callA cfg ic dst f args E.H = some (res, H')) :
    Calls P f vs.toArray E.w (fun e w' => ∃ E', E'.w = w' ∧ Inv E' ∧ E'.H = H' ∧ Step E E' ∧ Fit E E' ∧ ROk E' e res) := by
  unfold callA at h
  simp only [] at h
  obtain ⟨E1, w1, e1, I1, S1, F1, A1⟩ := sealArgs_ok (own := cfg.ownA f) I 0 ha
  rw [← e1] at h
  split at h
  · rename_i hg
    simp only [Option.bind_eq_some_iff] at h
    obtain ⟨⟨r, H3⟩, hr, h⟩ := h
    split at h
    · rename_i hb
      injection h with h
      injection h with h1 h2
      subst h1 h2
      obtain ⟨I2, S2⟩ := rehome_ok hg I1
      have homg := rehome_hom hg E1
      have hcall := hic f _ _ r H3 hr (rehome (gArgs E1.H (sealArgs (cfg.ownA f) 0 E.H args).1) E1) vs I2 rfl ⟨by rw [renL_eq]; simpa using A1.1, fun i v a hv ha' => by
        rw [renL_eq, List.getElem?_map, Option.map_eq_some_iff] at ha'
        obtain ⟨c, hc, rfl⟩ := ha'
        exact (A1.2 i v c hv hc).hom homg⟩
      rw [show (rehome (gArgs E1.H (sealArgs (cfg.ownA f) 0 E.H args).1) E1).w = E.w from w1] at hcall
      refine hcall.mono ?_
      rintro e w' ⟨E3, rfl, I3, e3, S3, hres, hpin⟩
      subst e3
      obtain ⟨E4, a1, a2, a3, a4, a5, a6⟩ := merge_ok hg I1 I3 S3 hpin hb
      refine ⟨E4, a1, a3, a2, S1.trans I1 a4, F1.trans a5, ?_⟩
      cases e with
      | returned v =>
        cases r with
        | ret a => exact RV.hom a6 hres
        | pan a => exact hres.elim
      | panicked chain =>
        cases r with
        | ret a => exact hres.elim
        | pan a => obtain ⟨v, h1, h2⟩ := hres; exact ⟨v, h1, RV.hom a6 h2⟩
      | outgrown => cases r <;> exact hres.elim
    · cases h
  · cases h
end Go.Rx
end
section
namespace Go.Rx
open Go Go.RowKit
set_option linter.unusedVariables false
set_option linter.unusedSimpArgs false

inductive Fx where
  | norm
  | ret
  | exit (id : Nat)
  | pan (a : AV)

structure St where
  fr : Fr
  H : Hp

def putF (nt : Nat) (dst : Option Tmp) (v : AV) (fr : Fr) (H : Hp) : Option St :=
  match dst with
  | some d => if d < nt then some ⟨(d, v) :: fr, H⟩ else none
  | none => some ⟨fr, H⟩

structure SR (nt : Nat) (ds : List Deferred) (E : En) (a : Act) (st : St) : Prop where
  fr : FrOk E a st.fr
  sz : a.tmps.size = nt
  df : a.defers = ds
  H : E.H = st.H
  I : Inv E

theorem Fr.get_cons (d t : Nat) (v : AV) (fr : Fr) : Fr.get ((d, v) :: fr) t = if d = t then v else fr.get t := rfl

theorem put_ok' {nt : Nat} {ds : List Deferred} {E : En} {a : Act} {fr : Fr} {H : Hp} {dst : Option Tmp} {v : Value} {av : AV} {st' : St} (h : putF nt dst av fr H = some st') (F : FrOk E a fr) (hsz : a.tmps.size = nt) (hd : a.defers = ds) (hH : E.H = H) (I : Inv E) (hv : RV E v av) : SR nt ds E (a.put dst v) st' := by
  cases dst with
  | none =>
    injection h with h; subst h
    exact ⟨F, hsz, hd, hH, I⟩
  | some d =>
    simp only [putF] at h
    split at h
    · rename_i hlt
      injection h with h; subst h
      refine ⟨⟨fun t => ?_⟩, by simp [Act.put, hsz], by simp [Act.put, hd], hH, I⟩
      simp only [Act.put, Fr.get_cons]
      by_cases hdt : d = t
      · subst hdt
        rw [if_pos rfl]
        simp only [Array.getD_eq_getD_getElem?, Array.getElem?_setIfInBounds_self, hsz, if_pos hlt, Option.getD_some]
        exact hv
      · rw [if_neg hdt]
        have := F.rv t
        simp only [Array.getD_eq_getD_getElem?] at this ⊢
        rw [Array.getElem?_setIfInBounds_ne hdt]
        exact this
    · cases h

def plainF (P : Program) (f : FuncId) : Bool :=
  match P.funcs[f]? with
  | some fn => !(fn.name == "runtime.NumGoroutine") && fn.body.isSome
  | none => false

def runOp (P : Program) (cfg : Cfg) (ic : Ic) (nt : Nat) (o : Oper) (st : St) : Option (Option AV × St) :=
  match o.op with
  | .call c => match c.callee with
    | .value fv => match evA st.fr fv with
      | .fn f caps => if plainF P f then (callA cfg ic (o.dst.getD 0) f (c.args.toList.map (evA st.fr) ++ caps) st.H).bind fun r => match r.1 with
          | .ret a => (putF nt o.dst a st.fr r.2).map fun s => (none, s)
          | .pan a => some (some a, ⟨st.fr, r.2⟩)
        else none
      | _ => none
    | _ => (aop P (o.dst.getD 0) (evA st.fr) st.H o.op).bind fun r => (putF nt o.dst r.1 st.fr r.2).map fun s => (none, s)
  | .panic x => match evA st.fr x with
    | .iface t a => some (some (.iface t a), st)
    | _ => none
  | _ => (aop P (o.dst.getD 0) (evA st.fr) st.H o.op).bind fun r => (putF nt o.dst r.1 st.fr r.2).map fun s => (none, s)

theorem aop_wp {P : Program} {nt : Nat} {ds : List Deferred} {E : En} {a : Act} {st st' : St} {p : Option AV} {o : Oper} {next : Act → World → Prop} {Q : Exit → Act → World → Prop} (R : SR nt ds E a st)
    (h : ((aop P (o.dst.getD 0) (evA st.fr) st.H o.op).bind fun r => (putF nt o.dst r.1 st.fr r.2).map fun s => (none, s)) = some (p, st'))
    (hn : ∀ a' E', SR nt ds E' a' st' → Step E E' → Fit E E' → next a' E'.w) : p = none ∧ o.wp P a E.w next Q := by
  simp only [Option.bind_eq_some_iff, Option.map_eq_some_iff] at h
  obtain ⟨⟨r, H'⟩, hr, s, hs, h⟩ := h
  injection h with h1 h2
  subst h1 h2
  rw [← R.H] at hr
  obtain ⟨v, E', nx, e1, e2, e3, e4, e5, e6, e7⟩ := aop_ok R.I R.fr hr
  refine ⟨rfl, ?_⟩
  unfold Oper.wp
  rw [e1]
  have R' : SR nt ds E' (a.put o.dst v) s := put_ok' hs (R.fr.mono e7) R.sz R.df e5 e4 e3
  rcases e2 with rfl | ⟨rfl, rfl⟩
  · exact hn _ _ R' e6 e7
  · exact hn _ _ R' e6 e7

theorem runOp_ok {P : Program} {cfg : Cfg} {ic : Ic} (hic : IcOk P ic) {nt : Nat} {ds : List Deferred} {E : En} {a : Act} {st st' : St} {p : Option AV} {o : Oper} {next : Act → World → Prop} {Q : Exit → Act → World → Prop} (R : SR nt ds E a st)
    (h : runOp P cfg ic nt o st = some (p, st')) (hn : p = none → ∀ a' E', SR nt ds E' a' st' → Step E E' → Fit E E' → next a' E'.w)
    (hp : ∀ av, p = some av → ∀ E' v, SR nt ds E' a st' → Step E E' → Fit E E' → RV E' v av → Q (.panic [{ v, recovered := false }]) a E'.w) : o.wp P a E.w next Q := by
  have viaAop : ((aop P (o.dst.getD 0) (evA st.fr) st.H o.op).bind fun r => (putF nt o.dst r.1 st.fr r.2).map fun s => (none, s)) = some (p, st') → o.wp P a E.w next Q := fun h => by
    by_cases hpn : p = none
    · exact (aop_wp R h (hn hpn)).2
    · simp only [Option.bind_eq_some_iff, Option.map_eq_some_iff] at h
      obtain ⟨_, _, _, _, h⟩ := h
      injection h with h1 h2
      exact absurd h1.symm hpn
  unfold runOp at h
  split at h
  · rename_i c ho
    split at h
    · rename_i fv hcal
      split at h
      · rename_i f caps hf
        split at h
        · rename_i hpl
          simp only [Option.bind_eq_some_iff] at h
          obtain ⟨⟨r, H'⟩, hr, h⟩ := h
          have hfv := R.fr.eval fv
          rw [hf] at hfv
          generalize hfe : a.eval fv = fval at hfv
          cases hfv with
          | fn _ cs _ hl hcr =>
          rw [← R.H] at hr
          have hargs : ArgsOk E (c.args.toList.map a.eval ++ cs) (c.args.toList.map (evA st.fr) ++ caps) := by
            refine ⟨by simp [hl], fun i v b hv hb => ?_⟩
            by_cases hi : i < c.args.toList.length
            · rw [List.getElem?_append_left (by simpa using hi), List.getElem?_map, Option.map_eq_some_iff] at hv hb
              obtain ⟨x, hx, rfl⟩ := hv
              obtain ⟨y, hy, rfl⟩ := hb
              rw [hx] at hy; injection hy with hy; subst hy
              exact R.fr.eval x
            · rw [List.getElem?_append_right (by simp at hi ⊢; omega)] at hv hb
              simp only [List.length_map] at hv hb
              exact hcr _ v b hv hb
          have hcall := callA_ok (P := P) hic R.I hargs hr
          have hrun : (execOp a.eval o).run P E.w = .ok (.enter f (c.args.toList.map a.eval ++ cs).toArray) E.w := by
            unfold plainF at hpl
            cases hfn : P.funcs[f]? with
            | none => rw [hfn] at hpl; cases hpl
            | some fn =>
              rw [hfn] at hpl
              simp only [Bool.and_eq_true, Bool.not_eq_true'] at hpl
              have hb : fn.body.isNone = false := by cases hbb : fn.body with
                | none => rw [hbb] at hpl; simp at hpl
                | some x => rfl
              have hname : ¬ ((fn.name == "runtime.NumGoroutine") = true) := by rw [hpl.1]; simp
              have earr : (Array.map a.eval c.args ++ cs.toArray) = (c.args.toList.map a.eval ++ cs).toArray := by apply Array.ext'; simp
              unfold execOp
              simp only [ho, resolve, hcal, hfe, Deferred.ofValue, Sem.run_bind, Sem.run_pure, Result.andThen_ok, invoke, callFunc, run_program, hfn, hb, if_neg hname]
              simp [earr]
          unfold Oper.wp
          rw [hrun]
          simp only [Oper.upon_enter]
          refine hcall.mono ?_
          rintro e w' ⟨E', rfl, I', e', S', F', hres⟩
          cases e with
          | returned v =>
            cases r with
            | pan b => exact hres.elim
            | ret b =>
              simp only [Option.map_eq_some_iff] at h
              obtain ⟨s, hs, h⟩ := h
              injection h with h1 h2
              subst h2
              exact hn h1.symm _ _ (put_ok' hs (R.fr.mono F') R.sz R.df e' I' hres) S' F'
          | panicked chain =>
            cases r with
            | ret b => exact hres.elim
            | pan b =>
              obtain ⟨v, rfl, hv⟩ := hres
              injection h with h
              injection h with h1 h2
              subst h2
              exact hp _ h1.symm _ _ ⟨R.fr.mono F', R.sz, R.df, e', I'⟩ S' F' hv
          | outgrown => cases r <;> exact hres.elim
        · cases h
      · cases h
    · exact viaAop h
  · rename_i x ho
    split at h
    · rename_i t b hx
      injection h with h
      injection h with h1 h2
      subst h1 h2
      have hv := R.fr.eval x
      rw [hx] at hv
      generalize hxe : a.eval x = xv at hv
      cases hv with
      | iface _ v _ hvr =>
      have hrun : (execOp a.eval o).run P E.w = .halt (.panic (.iface t v)) E.w := by
        unfold execOp
        simp [ho, hxe, Instr.panic]
      unfold Oper.wp
      rw [hrun]
      exact hp _ rfl E _ R (.refl E) (.refl E) (.iface _ _ _ hvr)
    · cases h
  · exact viaAop h

def wantedA (ops : Array Oper) (fr : Fr) (o : Oper) : Option Bool :=
  match o.guard with
  | none => some true
  | some (j, want) => match (ops[j]?).bind (·.dst) with
    | none => some false
    | some t => match fr.get t with
      | .d (.bool b) => some (b == want)
      | .tuple [] => some false
      | _ => none

theorem wantedA_ok {E : En} {a : Act} {fr : Fr} (F : FrOk E a fr) {ops : Array Oper} {o : Oper} {b : Bool} (h : wantedA ops fr o = some b) : Region.wanted o (yielded ops a.tmps) = b := by
  unfold wantedA at h
  unfold Region.wanted
  split at h
  · rename_i hg; injection h with h; subst h; simp [hg]
  · rename_i j want hg
    simp only [hg]
    split at h
    · rename_i hd; injection h with h; subst h; simp [yielded, hd]
    · rename_i t hd
      have hr := F.rv t
      split at h
      · rename_i c hc
        injection h with h; subst h
        rw [hc] at hr
        have hv := rep_bool (rv_d hr)
        have : a.tmps[t]? = some (.bool c) := by
          rw [Array.getD_eq_getD_getElem?] at hv
          cases ht : a.tmps[t]? with
          | none => rw [ht] at hv; cases hv
          | some u => rw [ht] at hv; simp at hv; rw [hv]
        simp [yielded, hd, this]
      · rename_i hc
        injection h with h; subst h
        rw [hc] at hr
        generalize hv : a.tmps.getD t undef = u at hr
        cases hr with
        | tuple cs _ hl _ =>
        rw [Array.getD_eq_getD_getElem?] at hv
        cases ht : a.tmps[t]? with
        | none => simp [yielded, hd, ht]
        | some u' => rw [ht] at hv; simp at hv; subst hv; simp [yielded, hd, ht]
      · cases h

def stepOp (P : Program) (cfg : Cfg) (ic : Ic) (nt : Nat) (ops : Array Oper) (i : Nat) (st : St) : Option (Option AV × St) :=
  match ops[i]? with
  | none => some (none, st)
  | some o => match wantedA ops st.fr o with
    | none => none
    | some true => runOp P cfg ic nt o st
    | some false => (putF nt o.dst (.tuple []) st.fr st.H).map fun s => (none, s)

def runOps (P : Program) (cfg : Cfg) (ic : Ic) (nt : Nat) (ops : Array Oper) : List Nat → St → Option (Option AV × St)
  | [], st => some (none, st)
  | i :: l, st => (stepOp P cfg ic nt ops i st).bind fun r => match r.1 with
    | some v => some (some v, r.2)
    | none => runOps P cfg ic nt ops l r.2

/-- How a piece of code ends. -/
def Mt (E : En) : Exit → Fx → Prop
  | .normal, .norm => True
  | .ret, .ret => True
  | .exit i, .exit j => i = j
  | .panic chain, .pan b => ∃ v, chain = [{ v, recovered := false }] ∧ RV E v b
  | _, _ => False

def opFx : Option AV → Fx
  | none => .norm
  | some v => .pan v

def Post (nt : Nat) (ds : List Deferred) (N : Nm → Prop) (E : En) (fx : Fx) (st' : St) : Exit → Act → World → Prop :=
  fun e a' w' => ∃ E', E'.w = w' ∧ SR nt ds E' a' st' ∧ Step E E' ∧ Pin N E E' ∧ Mt E' e fx

theorem runOps_ok {P : Program} {cfg : Cfg} {ic : Ic} (hic : IcOk P ic) {nt : Nat} {ds : List Deferred} (N : Nm → Prop) {ops : Array Oper} : ∀ (l : List Nat) (E : En) (a : Act) (st st' : St) (p : Option AV), SR nt ds E a st → runOps P cfg ic nt ops l st = some (p, st') →
    ∀ (Q : Exit → Act → World → Prop), (∀ e a' w', Post nt ds N E (opFx p) st' e a' w' → Q e a' w') → wpOps P ops Q l a E.w
  | [], E, a, st, st', p, R, h, Q, hQ => by
    injection h with h
    injection h with h1 h2
    subst h1 h2
    exact hQ _ _ _ ⟨E, rfl, R, .refl E, .refl N E, trivial⟩
  | i :: l, E, a, st, st', p, R, h, Q, hQ => by
    simp only [runOps, Option.bind_eq_some_iff] at h
    obtain ⟨⟨q, s⟩, hs, h⟩ := h
    unfold stepOp at hs
    unfold wpOps
    split at hs
    · rename_i ho
      injection hs with hs
      injection hs with h1 h2
      subst h1 h2
      simp only [ho]
      exact runOps_ok hic N l E a st st' p R h Q hQ
    · rename_i o ho
      simp only [ho]
      split at hs
      · cases hs
      · rename_i hw
        rw [wantedA_ok R.fr hw, if_pos rfl]
        refine .inl (runOp_ok (cfg := cfg) hic R hs (fun hq a' E' R' S' F' => ?_) (fun av hq E' v R' S' F' hv => ?_))
        · subst hq
          refine runOps_ok hic N l E' a' s st' p R' h Q (fun e a'' w'' ⟨E'', h1, h2, h3, h4, h5⟩ => hQ _ _ _ ⟨E'', h1, h2, S'.trans R'.I h3, (F'.pin N).trans h4, h5⟩)
        · subst hq
          injection h with h
          injection h with h1 h2
          subst h1 h2
          exact hQ _ _ _ ⟨E', rfl, R', S', F'.pin N, v, rfl, hv⟩
      · rename_i hw
        rw [wantedA_ok R.fr hw, if_neg (by simp)]
        rw [Option.map_eq_some_iff] at hs
        obtain ⟨s', hs', h2⟩ := hs
        injection h2 with h2 h3
        subst h2 h3
        have R' : SR nt ds E (a.put o.dst undef) s' := put_ok' hs' R.fr R.sz R.df R.H R.I (.tuple [] [] rfl (fun i v a hv => by simp at hv))
        exact runOps_ok hic N l E _ s' st' p R' h Q hQ
end Go.Rx
end
section
namespace Go.Rx
open Go Go.RowKit
set_option linter.unusedVariables false
set_option linter.unusedSimpArgs false

mutual
def hdlV : AV → List Nm
  | .own o _ _ => [o]
  | .ptr o _ => [o]
  | .eptr o _ _ _ => [o]
  | .agg vs => hdlL vs
  | .tuple vs => hdlL vs
  | .fn _ vs => hdlL vs
  | .iface _ a => hdlV a
  | _ => []
def hdlL : List AV → List Nm
  | [] => []
  | a :: r => hdlV a ++ hdlL r
end
def reach (H : Hp) : Nat → List Nm → List Nm → List Nm
  | 0, _, seen => seen
  | _, [], seen => seen
  | k + 1, o :: todo, seen => if seen.contains o then reach H k todo seen else
    match H.get o with
    | some (.cells cs) => reach H k (todo ++ hdlL cs) (seen ++ [o])
    | some _ => reach H k todo (seen ++ [o])
    | none => reach H k todo seen

theorem hdlL_mem : ∀ (l : List AV) (i : Nat) (a : AV), l[i]? = some a → ∀ o, o ∈ hdlV a → o ∈ hdlL l
  | [], i, a, h => by simp at h
  | b :: r, 0, a, h => by simp at h; subst h; intro o ho; simp [hdlL, ho]
  | b :: r, i + 1, a, h => fun o ho => by simp [hdlL, hdlL_mem r i a (by simpa using h) o ho]

/-- Read over fewer objects. -/
theorem RV.sub {E Er : En} (hw : Er.w = E.w) (hS : Er.S = E.S) (hφ : Er.φ = E.φ) {v : Value} {a : AV} (h : RV E v a) : (∀ o ∈ hdlV a, Er.H.get o = E.H.get o) → RV Er v a := by
  induction h with
  | undef v => intro _; exact .undef v
  | d v x hx => intro _; exact .d v x (by rw [hw, hS]; exact hx)
  | nilsl => intro _; exact .nilsl
  | agg cs vs hl h1 _ ih => intro hh; exact .agg cs vs hl h1 (fun i v a hv ha => ih i v a hv ha (fun o ho => hh o (by simp only [hdlV]; exact hdlL_mem vs i a ha o ho)))
  | tuple cs vs hl _ ih => intro hh; exact .tuple cs vs hl (fun i v a hv ha => ih i v a hv ha (fun o ho => hh o (by simp only [hdlV]; exact hdlL_mem vs i a ha o ho)))
  | fn f cs vs hl _ ih => intro hh; exact .fn f cs vs hl (fun i v a hv ha => ih i v a hv ha (fun o ho => hh o (by simp only [hdlV]; exact hdlL_mem vs i a ha o ho)))
  | iface t v a _ ih => intro hh; exact .iface t v a (ih (fun o ho => hh o (by simpa only [hdlV] using ho)))
  | rptr b off e k hb hc => intro _; exact .rptr b off e k (by rw [hS]; exact hb) (by rw [hw, hS]; exact hc)
  | ptr o off cs hg =>
    intro hh
    have := hh o (by simp [hdlV])
    rw [← hφ]
    exact .ptr o off cs (by rw [this]; exact hg)
  | own v o ver n h1 ho =>
    intro hh
    have hg := hh o (by simp [hdlV])
    obtain ⟨x, h2, h3⟩ := ho
    refine .own v o ver n h1 ⟨x, by rw [hg]; exact h2, ?_⟩
    unfold En.sl at *
    rw [hφ]; exact h3
  | eptr v o ver i off h1 ho =>
    intro hh
    have hg := hh o (by simp [hdlV])
    obtain ⟨x, h2, h3⟩ := ho
    refine .eptr v o ver i off h1 ⟨x, by rw [hg]; exact h2, ?_⟩
    rw [hφ]; exact h3

/-- The objects named in K are those of E, and what they hold are handles on objects of K. -/
def SubOk (E : En) (K : Hp) : Prop := (∀ o x, K.get o = some x → E.H.get o = some x) ∧ ∀ o cs, K.get o = some (.cells cs) → ∀ p ∈ hdlL cs, (K.get p).isSome = true

theorem sub_inv {E : En} (I : Inv E) {K : Hp} (h : SubOk E K) : Inv ⟨E.w, E.S, E.φ, K⟩ := by
  obtain ⟨h1, h2⟩ := h
  refine ⟨fun o x hx => ?_, fun o o' x x' hx hx' => I.dist o o' x x' (h1 o x hx) (h1 o' x' hx'), fun o x hx => I.free o x (h1 o x hx), I.sin⟩
  have hr := I.obj o x (h1 o x hx)
  cases x with
  | cells cs =>
    obtain ⟨c, ty, b1, b2, b3, b4⟩ := hr
    refine ⟨c, ty, b1, b2, b3, fun k v a hv ha => RV.sub (E := E) (Er := ⟨E.w, E.S, E.φ, K⟩) rfl rfl rfl (b4 k v a hv ha) (fun p hp => ?_)⟩
    have hs := h2 o cs hx p (hdlL_mem cs k a ha p hp)
    show K.get p = E.H.get p
    cases hk : K.get p with
    | none => rw [hk] at hs; cases hs
    | some y => rw [h1 p y hk]
  | arr e s v es => exact hr
  | frz e s v es => exact hr

/-- What is done over fewer objects is done over all. -/
theorem frame_ok {E E2 : En} (I : Inv E) {K : Hp} (hK : SubOk E K) (I2 : Inv E2) (S : Step ⟨E.w, E.S, E.φ, K⟩ E2) (F : Fit ⟨E.w, E.S, E.φ, K⟩ E2) (hfresh : ∀ o x, E2.H.get o = some x → K.get o = none → E.H.get o = none)
    (H' : Hp) (hH : ∀ o, H'.get o = match E2.H.get o with | some x => some x | none => E.H.get o) :
    ∃ φ', Inv ⟨E2.w, E2.S, φ', H'⟩ ∧ Step E ⟨E2.w, E2.S, φ', H'⟩ ∧ Fit E ⟨E2.w, E2.S, φ', H'⟩ ∧ Fit E2 ⟨E2.w, E2.S, φ', H'⟩ := by
  have I1 := sub_inv I hK
  let φ' : Nm → Pl := fun o => if (E2.H.get o).isSome then E2.φ o else E.φ o
  have φin : ∀ o x, E2.H.get o = some x → φ' o = E2.φ o := fun o x h => by simp only [φ', h]; rfl
  have φout : ∀ o, E2.H.get o = none → φ' o = E.φ o := fun o h => by simp only [φ', h]; rfl
  have inK : ∀ o, E2.H.get o = none → K.get o = none := fun o h => by
    cases hk : K.get o with
    | none => rfl
    | some x => obtain ⟨x', h', _⟩ := F.hm o x hk; rw [h] at h'; cases h'
  have up : Fit E2 ⟨E2.w, E2.S, φ', H'⟩ := ⟨fun b hb => ⟨hb, rfl⟩, fun o x hx => ⟨x, by show H'.get o = _; rw [hH, hx], Compat.self (φin o x hx) x⟩⟩
  have owns1 : ∀ b, Owns ⟨E.w, E.S, E.φ, K⟩ b → ∃ o x, K.get o = some x ∧ E.H.get o = some x ∧ x.live = true ∧ (E.φ o).1 = b := fun b ⟨o, x, h1, h2, h3⟩ => ⟨o, x, h1, hK.1 o x h1, h2, h3⟩
  have restno : ∀ q x, K.get q = none → E.H.get q = some x → ¬ Owns ⟨E.w, E.S, E.φ, K⟩ (E.φ q).1 := fun q x hq hx ho => by
    obtain ⟨o, z, h1, h2, h3, h4⟩ := owns1 _ ho
    cases hl : x.live with
    | true =>
      have := I.dist o q z x h2 hx h3 hl h4
      subst this
      rw [hq] at h1; cases h1
    | false =>
      cases x with
      | frz e s v es =>
        obtain ⟨h0, _⟩ := I.obj q _ hx
        exact I.free o z h2 h3 (h4 ▸ h0)
      | cells cs => cases hl
      | arr e s v es => cases hl
  have restblk : ∀ q x, K.get q = none → E.H.get q = some x → E2.w.heap[(E.φ q).1]? = E.w.heap[(E.φ q).1]? := fun q x hq hx => S.keep _ (I.obj q x hx).lt (restno q x hq hx)
  have st1 : ∀ b, E.S b → E2.S b ∧ E2.w.heap[b]? = E.w.heap[b]? := fun b hS => Step.st I1 S b hS
  have from' : ∀ q x, H'.get q = some x → (E2.H.get q = some x ∧ φ' q = E2.φ q) ∨ (E2.H.get q = none ∧ K.get q = none ∧ E.H.get q = some x ∧ φ' q = E.φ q) := fun q x hq => by
    rw [hH] at hq
    cases h2 : E2.H.get q with
    | some y => rw [h2] at hq; injection hq with hq; subst hq; exact .inl ⟨rfl, φin q y h2⟩
    | none => rw [h2] at hq; exact .inr ⟨rfl, inK q h2, hq, φout q h2⟩
  have fit : Fit E ⟨E2.w, E2.S, φ', H'⟩ := by
    refine ⟨st1, fun o x hx => ?_⟩
    cases hk : K.get o with
    | some y =>
      have := hK.1 o y hk
      rw [hx] at this
      injection this with this
      subst this
      obtain ⟨x', h1, h2⟩ := F.hm o x hk
      refine ⟨x', by show H'.get o = _; rw [hH, h1], ?_⟩
      have hφ := φin o x' h1
      cases x <;> cases x' <;> simp only [Compat] at h2 ⊢
      · exact hφ.trans h2
      all_goals exact ⟨h2.1, fun e => ⟨(h2.2 e).1, hφ.trans (h2.2 e).2.1, (h2.2 e).2.2⟩⟩
    | none =>
      have h2 : E2.H.get o = none := by
        cases h2 : E2.H.get o with
        | none => rfl
        | some y => have := hfresh o y h2 hk; rw [hx] at this; cases this
      exact ⟨x, by show H'.get o = _; rw [hH, h2]; exact hx, Compat.self (φout o h2) x⟩
  have restlive : ∀ q x, K.get q = none → E.H.get q = some x → x.live = true → ¬ E2.S (E.φ q).1 ∧ ¬ Owns E2 (E.φ q).1 := fun q x hq hx hl => by
    have no2 := restno q x hq hx
    have noS : ¬ E.S (E.φ q).1 := I.free q x hx hl
    have hlt := (I.obj q x hx).lt
    exact ⟨fun h => by rcases S.new _ (.inl h) hlt with h | h; · exact noS h
                       · exact no2 h,
           fun h => by rcases S.new _ (.inr h) hlt with h | h; · exact noS h
                       · exact no2 h⟩
  refine ⟨φ', ⟨fun q x hq => ?_, fun q r x y hq hr hx hy hb => ?_, fun q x hq hl => ?_, I2.sin⟩, ⟨S.os, S.tape, S.output, S.size, fun blk hlt hno => ?_, fun blk h => (st1 blk h).1, fun blk h hlt => ?_⟩, fit, up⟩
  · rcases from' q x hq with ⟨h1, h2⟩ | ⟨h0, h1, h2, h3⟩
    · exact (I2.obj q x h1).mono up h2 rfl
    · exact (I.obj q x h2).mono fit h3 (restblk q x h1 h2)
  · have hb' : (φ' q).1 = (φ' r).1 := hb
    rcases from' q x hq with ⟨h1, h2⟩ | ⟨h0, h1, h2, h3⟩
    · rcases from' r y hr with ⟨h1', h2'⟩ | ⟨h0', h1', h2', h3'⟩
      · exact I2.dist q r x y h1 h1' hx hy (by rw [← h2, ← h2']; exact hb')
      · exact ((restlive r y h1' h2' hy).2 ⟨q, x, h1, hx, by rw [← h2, hb', h3']⟩).elim
    · rcases from' r y hr with ⟨h1', h2'⟩ | ⟨h0', h1', h2', h3'⟩
      · exact ((restlive q x h1 h2 hx).2 ⟨r, y, h1', hy, by rw [← h2', ← hb', h3]⟩).elim
      · exact I.dist q r x y h2 h2' hx hy (by rw [← h3, ← h3']; exact hb')
  · show ¬ E2.S (φ' q).1
    rcases from' q x hq with ⟨h1, h2⟩ | ⟨h0, h1, h2, h3⟩
    · rw [h2]; exact I2.free q x h1 hl
    · rw [h3]; exact (restlive q x h1 h2 hl).1
  · refine S.keep blk hlt (fun ho => hno ?_)
    obtain ⟨o, x, h1, h2, h3, h4⟩ := owns1 _ ho
    exact ⟨o, x, h2, h3, h4⟩
  · have key : E2.S blk ∨ Owns E2 blk → E.S blk ∨ Owns E blk := fun h => by
      rcases S.new blk h hlt with h | h
      · exact .inl h
      · obtain ⟨o, x, h1, h2, h3, h4⟩ := owns1 _ h
        exact .inr ⟨o, x, h2, h3, h4⟩
    rcases h with h | ⟨q, x, hq, hx, hbq⟩
    · exact key (.inl h)
    · have hbq' : (φ' q).1 = blk := hbq
      rcases from' q x hq with ⟨h1, h2⟩ | ⟨h0, h1, h2, h3⟩
      · exact key (.inr ⟨q, x, h1, hx, by rw [← h2]; exact hbq'⟩)
      · exact .inr ⟨q, x, h2, hx, by rw [← h3]; exact hbq'⟩

theorem Hp.get_name' : ∀ {H : Hp} {o : Nm} {x : AObj}, H.get o = some x → o ∈ H.map (·.1)
  | [], _, _, h => by cases h
  | (p, y) :: r, o, x, h => by
    simp only [Hp.get_cons] at h
    split at h
    · rename_i hp; subst hp; simp
    · simp only [List.map_cons]; exact List.mem_cons_of_mem _ (Hp.get_name' h)
theorem Hp.name_get' : ∀ {H : Hp} {o : Nm}, o ∈ H.map (·.1) → H.get o = none → False
  | [], _, h, _ => by simp at h
  | (p, y) :: r, o, h, hn => by
    simp only [Hp.get_cons] at hn
    split at hn
    · cases hn
    · rename_i hp
      simp only [List.map_cons, List.mem_cons] at h
      rcases h with h | h
      · exact hp h.symm
      · exact Hp.name_get' h hn
theorem Hp.get_mem' : ∀ {H : Hp} {o : Nm} {x : AObj}, H.get o = some x → (o, x) ∈ H
  | [], _, _, h => by cases h
  | (p, y) :: r, o, x, h => by
    simp only [Hp.get_cons] at h
    split at h
    · rename_i hp; subst hp; injection h with h; subst h; simp
    · exact List.mem_cons_of_mem _ (Hp.get_mem' h)
theorem fr_keep (keep : List Nat) (h : Nat → AV) : ∀ t, Fr.get (keep.map fun s => (s, h s)) t = if t ∈ keep then h t else .undef := fun t => by
  induction keep with
  | nil => simp [Fr.get]
  | cons s r ih =>
    simp only [List.map_cons, Fr.get_cons, ih]
    by_cases hs : s = t
    · subst hs; simp
    · rw [if_neg hs]
      have : (t ∈ s :: r) ↔ t ∈ r := by simp; intro h; exact absurd h.symm hs
      by_cases h2 : t ∈ r
      · rw [if_pos h2, if_pos (this.2 h2)]
      · rw [if_neg h2, if_neg (fun h => h2 (this.1 h))]

/-! ### Places and who wrote them last -/
section
variable {α β : Type} (W : Nat → α → Option β) (base : α → β)
def valD (D : Nat → Bool) : Nat → α → β
  | 0, l => base l
  | k + 1, l => match D k, W k l with
    | true, some x => x
    | _, _ => valD D k l
theorem valD_congr {D D' : Nat → Bool} {l : α} : ∀ n, (∀ k, k < n → (W k l).isSome = true → D k = D' k) → valD W base D n l = valD W base D' n l
  | 0, _ => rfl
  | n + 1, h => by
    simp only [valD]
    rw [valD_congr n (fun k hk => h k (by omega))]
    cases hw : W n l with
    | none => cases D n <;> cases D' n <;> rfl
    | some x => rw [h n (by omega) (by rw [hw]; rfl)]
theorem valD_put {D' : Nat → Bool} {l : α} {j : Nat} {x : β} (hx : W j l = some x) (hj : D' j = true) : ∀ n, j < n → (∀ k, k < n → j < k → (W k l).isSome = true → D' k = false) → valD W base D' n l = x
  | 0, h, _ => by omega
  | n + 1, h, hk => by
    simp only [valD]
    by_cases hn : n = j
    · subst hn; rw [hj, hx]
    · have ih := valD_put hx hj n (by omega) (fun k h1 h2 h3 => hk k (by omega) h2 h3)
      cases hw : W n l with
      | none => cases D' n <;> exact ih
      | some y => rw [hk n (by omega) (by omega) (by rw [hw]; rfl)]; exact ih
end
end Go.Rx
end
section
namespace Go.Rx
open Go Go.RowKit
set_option linter.unusedVariables false
set_option linter.unusedSimpArgs false

/-- One operation, no panic. -/
def opR (P : Program) (cfg : Cfg) (ic : Ic) (o : Oper) (fr : Fr) (H : Hp) : Option (AV × Hp) :=
  match o.op with
  | .call c => match c.callee with
    | .value fv => match evA fr fv with
      | .fn f caps => if plainF P f then (callA cfg ic (o.dst.getD 0) f (c.args.toList.map (evA fr) ++ caps) H).bind fun r => match r.1 with
          | .ret a => some (a, r.2)
          | .pan _ => none
        else none
      | _ => none
    | _ => aop P (o.dst.getD 0) (evA fr) H o.op
  | _ => aop P (o.dst.getD 0) (evA fr) H o.op

theorem opR_ok {P : Program} {cfg : Cfg} {ic : Ic} (hic : IcOk P ic) {E : En} {a : Act} {fr : Fr} {o : Oper} {r : AV} {H' : Hp} {next : Act → World → Prop} {Q : Exit → Act → World → Prop} (F : FrOk E a fr) (I : Inv E)
    (h : opR P cfg ic o fr E.H = some (r, H')) (hn : ∀ v E', RV E' v r → Inv E' → E'.H = H' → Step E E' → Fit E E' → next (a.put o.dst v) E'.w) : o.wp P a E.w next Q := by
  have viaAop : aop P (o.dst.getD 0) (evA fr) E.H o.op = some (r, H') → o.wp P a E.w next Q := fun h => by
    obtain ⟨v, E', nx, e1, e2, e3, e4, e5, e6, e7⟩ := aop_ok I F h
    unfold Oper.wp
    rw [e1]
    rcases e2 with rfl | ⟨rfl, rfl⟩
    · exact hn _ _ e3 e4 e5 e6 e7
    · exact hn _ _ e3 e4 e5 e6 e7
  unfold opR at h
  split at h
  · rename_i c ho
    split at h
    · rename_i fv hcal
      split at h
      · rename_i f caps hf
        split at h
        · rename_i hpl
          simp only [Option.bind_eq_some_iff] at h
          obtain ⟨⟨res, H1⟩, hr, h⟩ := h
          have hfv := F.eval fv
          rw [hf] at hfv
          generalize hfe : a.eval fv = fval at hfv
          cases hfv with
          | fn _ cs _ hl hcr =>
          have hargs : ArgsOk E (c.args.toList.map a.eval ++ cs) (c.args.toList.map (evA fr) ++ caps) := by
            refine ⟨by simp [hl], fun i v b hv hb => ?_⟩
            by_cases hi : i < c.args.toList.length
            · rw [List.getElem?_append_left (by simpa using hi), List.getElem?_map, Option.map_eq_some_iff] at hv hb
              obtain ⟨x, hx, rfl⟩ := hv
              obtain ⟨y, hy, rfl⟩ := hb
              rw [hx] at hy; injection hy with hy; subst hy
              exact F.eval x
            · rw [List.getElem?_append_right (by simp at hi ⊢; omega)] at hv hb
              simp only [List.length_map] at hv hb
              exact hcr _ v b hv hb
          have hcall := callA_ok (P := P) hic I hargs hr
          have hrun : (execOp a.eval o).run P E.w = .ok (.enter f (c.args.toList.map a.eval ++ cs).toArray) E.w := by
            unfold plainF at hpl
            cases hfn : P.funcs[f]? with
            | none => rw [hfn] at hpl; cases hpl
            | some fn =>
              rw [hfn] at hpl
              simp only [Bool.and_eq_true, Bool.not_eq_true'] at hpl
              have hb : fn.body.isNone = false := by cases hbb : fn.body with
                | none => rw [hbb] at hpl; simp at hpl
                | some x => rfl
              have hname : ¬ ((fn.name == "runtime.NumGoroutine") = true) := by rw [hpl.1]; simp
              have earr : (Array.map a.eval c.args ++ cs.toArray) = (c.args.toList.map a.eval ++ cs).toArray := by apply Array.ext'; simp
              unfold execOp
              simp only [ho, resolve, hcal, hfe, Deferred.ofValue, Sem.run_bind, Sem.run_pure, Result.andThen_ok, invoke, callFunc, run_program, hfn, hb, if_neg hname]
              simp [earr]
          unfold Oper.wp
          rw [hrun]
          simp only [Oper.upon_enter]
          refine hcall.mono ?_
          rintro e w' ⟨E', rfl, I', e', S', F', hres⟩
          cases res with
          | pan b => cases h
          | ret b =>
            injection h with h
            injection h with h1 h2
            subst h1 h2
            cases e with
            | returned v => exact hn v E' hres I' e' S' F'
            | panicked chain => exact hres.elim
            | outgrown => exact hres.elim
        · cases h
      · cases h
    · exact viaAop h
  · exact viaAop h

def tmpsOf (xs : Array Operand) : List Nat := xs.toList.filterMap fun | .tmp t => some t | _ => none
def gSlot (ops : Array Oper) (o : Oper) : List Nat :=
  match o.guard with
  | none => []
  | some (j, _) => ((ops[j]?).bind (·.dst)).toList

theorem wantedA_congr {ops : Array Oper} {fr fr' : Fr} {o : Oper} (h : ∀ t ∈ gSlot ops o, fr.get t = fr'.get t) : wantedA ops fr o = wantedA ops fr' o := by
  unfold wantedA
  unfold gSlot at h
  cases hg : o.guard with
  | none => rfl
  | some g =>
    obtain ⟨j, want⟩ := g
    rw [hg] at h
    simp only [] at h ⊢
    cases hd : (ops[j]?).bind (·.dst) with
    | none => rfl
    | some t =>
      rw [hd] at h
      simp only []
      rw [h t (by simp)]

def quietK : Op → Bool
  | .move _ | .assign _ | .pick .. | .build .. | .load .. | .nilCheck _ | .binOp .. | .unOp .. | .convert .. | .fieldAddr .. | .field .. | .indexAddr .. | .index .. | .extract .. | .makeFunc .. | .makeInterface .. => true
  | .call c => match c.callee with
    | .builtin .len => true
    | _ => false
  | _ => false

theorem quiet_H {P : Program} {cfg : Cfg} {ic : Ic} {o : Oper} {fr : Fr} {H H' : Hp} {r : AV} (hq : quietK o.op = true) (h : opR P cfg ic o fr H = some (r, H')) : H' = H := by
  have m : ∀ (x : Option AV), x.map (fun r => (r, H)) = some (r, H') → H' = H := fun x hx => by
    rw [Option.map_eq_some_iff] at hx; obtain ⟨y, _, hy⟩ := hx; injection hy with _ hy; exact hy.symm
  unfold opR at h
  cases ho : o.op <;> rw [ho] at h hq <;> simp only [quietK] at hq <;> first
    | cases hq
    | skip
  case call c =>
    simp only [] at h
    split at hq
    · rename_i hc
      simp only [hc, aop] at h
      split at h
      · exact m _ h
      · rename_i h1 h2 h3; cases h1
      · rename_i h1 h2 h3; cases h1
      · rename_i h1 h2 h3; cases h1
      · cases h
    · cases hq
  case pick c x y =>
    simp only [aop] at h
    split at h
    · injection h with h; injection h with _ h; exact h.symm
    · cases h
  case makeFunc fn first caps =>
    cases fn <;> simp only [aop] at h <;> first
      | (split at h
         · injection h with h; injection h with _ h; exact h.symm
         · cases h)
      | cases h
  case makeInterface t x =>
    simp only [aop] at h
    split at h
    · cases h
    · injection h with h; injection h with _ h; exact h.symm
  all_goals first
    | (simp only [aop] at h; exact m _ h)
    | (simp only [aop] at h; injection h with h; injection h with _ h; exact h.symm)

structure Rec where
  dst : Option Tmp
  r : AV
  rs : List Nat
  nm : List Nm
  tw : List Nm
  K' : Hp

def closedK (K : Hp) : Bool := K.all fun x => match x.2 with
  | .cells cs => (hdlL cs).all fun p => (K.get p).isSome
  | _ => true
def restr (H : Hp) (nm : List Nm) : Hp := nm.filterMap fun o => (H.get o).map fun x => (o, x)

def twOf (o : Oper) (H' : Hp) : List Nm := if quietK o.op then [] else H'.map (·.1)
def hpOf (o : Oper) (H H' : Hp) : Hp := if quietK o.op then H else H' ++ H

def mvOf : Op → Option Operand
  | .move x => some x
  | .assign x => some x
  | _ => none
theorem mv_run {P : Program} {o : Oper} {x : Operand} {a : Act} {w : World} (h : mvOf o.op = some x) : (execOp a.eval o).run P w = .ok (.value (a.eval x)) w := by
  unfold mvOf at h
  split at h <;> first
    | (rename_i y ho; injection h with h; subst h; simp [execOp, ho])
    | cases h
def dStep (P : Program) (cfg : Cfg) (ic : Ic) (nt : Nat) (ops : Array Oper) (j : Nat) (fr : Fr) (H : Hp) : Option (Rec × Fr × Hp) :=
  (ops[j]?).bind fun o => match wantedA ops fr o with
    | none => none
    | some false => (putF nt o.dst (.tuple []) fr H).map fun st => (⟨o.dst, .tuple [], gSlot ops o, [], [], []⟩, st.fr, H)
    | some true =>
      let sl := tmpsOf o.op.operands
      match mvOf o.op with
      | some x => (putF nt o.dst (evA (sl.map fun t => (t, fr.get t)) x) fr H).map fun st => (⟨o.dst, evA (sl.map fun t => (t, fr.get t)) x, sl ++ gSlot ops o, [], [], []⟩, st.fr, H)
      | none =>
      let hs := sl.flatMap fun t => hdlV (fr.get t)
      let nm := reach H 200 hs []
      let K := restr H nm
      if closedK K && hs.all (fun p => (K.get p).isSome) then
        (opR P cfg ic o (sl.map fun t => (t, fr.get t)) K).bind fun x =>
          if (twOf o x.2).all (fun p => (K.get p).isSome || (H.get p).isNone) then
            (putF nt o.dst x.1 fr (hpOf o H x.2)).map fun st => (⟨o.dst, x.1, sl ++ gSlot ops o, nm, twOf o x.2, x.2⟩, st.fr, st.H)
          else none
      else none

def preL (ops : Array Oper) : List (List Nat) :=
  ops.toList.foldl (fun acc o => acc ++ [o.after.toList.flatMap fun e => if Region.binds .any e then e.on :: (acc[e.on]?).getD [] else []]) []

def conf (a b : Rec) : Bool :=
  (match a.dst with | some d => b.rs.contains d || decide (b.dst = some d) | none => false) || (match b.dst with | some d => a.rs.contains d | none => false) ||
  a.tw.any (fun o => b.nm.contains o || b.tw.contains o) || b.tw.any (fun o => a.nm.contains o)

def orderOk (recs : List Rec) (pre : List (List Nat)) : Bool :=
  (List.range recs.length).all fun j => (List.range j).all fun i => match recs[i]?, recs[j]? with
    | some a, some b => !conf a b || ((pre[j]?).getD []).contains i
    | _, _ => true

def dGo (P : Program) (cfg : Cfg) (ic : Ic) (nt : Nat) (ops : Array Oper) : Nat → Nat → Fr → Hp → List Rec → Option (List Rec × Fr × Hp)
  | 0, _, fr, H, acc => some (acc, fr, H)
  | n + 1, j, fr, H, acc => (dStep P cfg ic nt ops j fr H).bind fun x => dGo P cfg ic nt ops n (j + 1) x.2.1 x.2.2 (acc ++ [x.1])

def Wt (recs : List Rec) (k t : Nat) : Option AV :=
  match recs[k]? with
  | some ρ => if ρ.dst = some t then some ρ.r else none
  | none => none
def Wo (recs : List Rec) (k : Nat) (o : Nm) : Option (Option AObj) :=
  match recs[k]? with
  | some ρ => if ρ.tw.contains o then some (ρ.K'.get o) else none
  | none => none

theorem valD_W {α β : Type} {W W' : Nat → α → Option β} {base : α → β} {D : Nat → Bool} {l : α} : ∀ n, (∀ k, k < n → W k l = W' k l) → valD W base D n l = valD W' base D n l
  | 0, _ => rfl
  | n + 1, h => by
    simp only [valD]
    rw [valD_W n (fun k hk => h k (by omega)), h n (by omega)]

theorem putF_get {nt : Nat} {dst : Option Tmp} {v : AV} {fr : Fr} {H : Hp} {st : St} (h : putF nt dst v fr H = some st) : st.H = H ∧ (∀ d, dst = some d → d < nt) ∧ ∀ t, st.fr.get t = if dst = some t then v else fr.get t := by
  cases dst with
  | none => injection h with h; subst h; exact ⟨rfl, (fun d hd => by cases hd), fun t => by simp⟩
  | some d =>
    simp only [putF] at h
    split at h
    · rename_i hlt
      injection h with h; subst h
      refine ⟨rfl, (fun d' hd => by injection hd with hd; subst hd; exact hlt), fun t => ?_⟩
      simp only [Fr.get_cons]
      by_cases hdt : d = t
      · subst hdt; simp
      · rw [if_neg hdt, if_neg (by intro h; injection h with h; exact hdt h)]
    · cases h

/-- What a step of the trace turned. -/
theorem dStep_turn {P : Program} {cfg : Cfg} {ic : Ic} {nt : Nat} {ops : Array Oper} {j : Nat} {fr fr' : Fr} {H H' : Hp} {ρ : Rec} (h : dStep P cfg ic nt ops j fr H = some (ρ, fr', H')) :
    (∀ t, fr'.get t = if ρ.dst = some t then ρ.r else fr.get t) ∧ ∀ o, H'.get o = if ρ.tw.contains o then ρ.K'.get o else H.get o := by
  unfold dStep at h
  simp only [Option.bind_eq_some_iff] at h
  obtain ⟨op, hop, h⟩ := h
  split at h
  · cases h
  · rw [Option.map_eq_some_iff] at h
    obtain ⟨st, hst, h⟩ := h
    injection h with h1 h2
    injection h2 with h2 h3
    subst h1 h2 h3
    exact ⟨(putF_get hst).2.2, fun o => by simp⟩
  · split at h
    · rw [Option.map_eq_some_iff] at h
      obtain ⟨st, hst, h⟩ := h
      injection h with h1 h2
      injection h2 with h2 h3
      subst h1 h2 h3
      exact ⟨(putF_get hst).2.2, fun o => by simp⟩
    split at h
    · simp only [Option.bind_eq_some_iff] at h
      obtain ⟨x, hx, h⟩ := h
      split at h
      · rw [Option.map_eq_some_iff] at h
        obtain ⟨st, hst, h⟩ := h
        injection h with h1 h2
        injection h2 with h2 h3
        subst h1 h2 h3
        obtain ⟨g1, g2, g3⟩ := putF_get hst
        refine ⟨g3, fun o => ?_⟩
        rw [g1]
        simp only [twOf, hpOf]
        by_cases hq : quietK op.op = true
        · simp only [hq, if_true]; simp
        · simp only [hq]
          simp only [Bool.false_eq_true, if_false]
          rw [Hp.get_append]
          cases hg : x.2.get o with
          | some y =>
            have := Hp.get_name' hg
            rw [if_pos (by simpa using this)]
          | none =>
            by_cases hm : (List.map (fun x => x.1) x.2).contains o = true
            · exact (Hp.name_get' (H := x.2) (o := o) (by simpa using hm) hg).elim
            · rw [if_neg hm]
      · cases h
    · cases h

def lt' (j : Nat) : Nat → Bool := fun k => decide (k < j)

/-- The trace, and what stands at each of its places. -/
theorem trace {P : Program} {cfg : Cfg} {ic : Ic} {nt : Nat} {ops : Array Oper} {fr0 : Fr} {H0 : Hp} : ∀ (n j : Nat) (fr : Fr) (H : Hp) (acc recs : List Rec) (fr' : Fr) (H' : Hp), dGo P cfg ic nt ops n j fr H acc = some (recs, fr', H') → acc.length = j →
    (∀ t, fr.get t = valD (Wt acc) fr0.get (fun _ => true) j t) → (∀ o, H.get o = valD (Wo acc) H0.get (fun _ => true) j o) →
    (∀ i, i < j → ∃ fri Hi ρ x, acc[i]? = some ρ ∧ dStep P cfg ic nt ops i fri Hi = some (ρ, x) ∧ (∀ t, fri.get t = valD (Wt acc) fr0.get (lt' i) j t) ∧ ∀ o, Hi.get o = valD (Wo acc) H0.get (lt' i) j o) →
    recs.length = j + n ∧ (∀ t, fr'.get t = valD (Wt recs) fr0.get (fun _ => true) (j + n) t) ∧ (∀ o, H'.get o = valD (Wo recs) H0.get (fun _ => true) (j + n) o) ∧
    (∀ i, i < j + n → ∃ fri Hi ρ x, recs[i]? = some ρ ∧ dStep P cfg ic nt ops i fri Hi = some (ρ, x) ∧ (∀ t, fri.get t = valD (Wt recs) fr0.get (lt' i) (j + n) t) ∧ ∀ o, Hi.get o = valD (Wo recs) H0.get (lt' i) (j + n) o)
  | 0, j, fr, H, acc, recs, fr', H', h, hl, hf, hH, hall => by
    injection h with h
    injection h with h1 h2
    injection h2 with h2 h3
    subst h1 h2 h3
    exact ⟨hl, hf, hH, hall⟩
  | n + 1, j, fr, H, acc, recs, fr', H', h, hl, hf, hH, hall => by
    simp only [dGo, Option.bind_eq_some_iff] at h
    obtain ⟨⟨ρ, fr1, H1⟩, hst, h⟩ := h
    obtain ⟨turn1, turn2⟩ := dStep_turn hst
    have hlast : (acc ++ [ρ])[j]? = some ρ := by rw [List.getElem?_append_right (by omega)]; simp [hl]
    have hold : ∀ k, k < j → (acc ++ [ρ])[k]? = acc[k]? := fun k hk => List.getElem?_append_left (by omega)
    have wt : ∀ k t, k < j → Wt (acc ++ [ρ]) k t = Wt acc k t := fun k t hk => by simp only [Wt, hold k hk]
    have wo : ∀ k o, k < j → Wo (acc ++ [ρ]) k o = Wo acc k o := fun k o hk => by simp only [Wo, hold k hk]
    have key := trace (fr0 := fr0) (H0 := H0) n (j + 1) fr1 H1 (acc ++ [ρ]) recs fr' H' h (by simp [hl])
      (fun t => by
        rw [turn1]
        simp only [valD, Wt, hlast]
        by_cases hd : ρ.dst = some t
        · simp only [if_pos hd]
        · simp only [if_neg hd]
          rw [hf t]
          exact valD_W j (fun k hk => (wt k t hk).symm))
      (fun o => by
        rw [turn2]
        simp only [valD, Wo, hlast]
        by_cases hd : ρ.tw.contains o = true
        · simp only [if_pos hd]
        · simp only [if_neg hd]
          rw [hH o]
          exact valD_W j (fun k hk => (wo k o hk).symm))
      (fun i hi => by
        by_cases hij : i = j
        · subst hij
          refine ⟨fr, H, ρ, _, hlast, hst, fun t => ?_, fun o => ?_⟩
          · rw [hf t]
            simp only [valD, lt', Nat.lt_irrefl, decide_false]
            rw [valD_W (W := Wt (acc ++ [ρ])) (W' := Wt acc) i (fun k hk => wt k t hk)]
            exact valD_congr _ _ i (fun k hk _ => by simp [lt', hk])
          · rw [hH o]
            simp only [valD, lt', Nat.lt_irrefl, decide_false]
            rw [valD_W (W := Wo (acc ++ [ρ])) (W' := Wo acc) i (fun k hk => wo k o hk)]
            exact valD_congr _ _ i (fun k hk _ => by simp [lt', hk])
        · obtain ⟨fri, Hi, ρi, x, a1, a2, a3, a4⟩ := hall i (by omega)
          refine ⟨fri, Hi, ρi, x, by rw [hold i (by omega)]; exact a1, a2, fun t => ?_, fun o => ?_⟩
          · rw [a3 t]
            have hji : ¬ (j < i) := by omega
            simp only [valD, lt', hji, decide_false]
            exact (valD_W j (fun k hk => wt k t hk)).symm
          · rw [a4 o]
            have hji : ¬ (j < i) := by omega
            simp only [valD, lt', hji, decide_false]
            exact (valD_W j (fun k hk => wo k o hk)).symm)
    rw [show j + (n + 1) = j + 1 + n by omega]
    exact key

theorem preL_spec (ops : Array Oper) : (preL ops).length = ops.size ∧ ∀ (j : Nat) (o : Oper), ops[j]? = some o → (preL ops)[j]? = some (o.after.toList.flatMap fun e => if Region.binds .any e then e.on :: (((preL ops).take j)[e.on]?).getD [] else []) := by
  have key : ∀ (l : List Oper) (acc : List (List Nat)), ∃ r : List (List Nat), l.foldl (fun (acc : List (List Nat)) (o : Oper) => acc ++ [o.after.toList.flatMap fun e => if Region.binds .any e then e.on :: (acc[e.on]?).getD [] else []]) acc = acc ++ r ∧ r.length = l.length ∧
      ∀ (i : Nat) (o : Oper), l[i]? = some o → r[i]? = some (o.after.toList.flatMap fun e => if Region.binds .any e then e.on :: (((acc ++ r).take (acc.length + i))[e.on]?).getD [] else []) := fun l => by
    induction l with
    | nil => intro acc; exact ⟨[], by simp, rfl, fun i o h => by simp at h⟩
    | cons x l ih =>
      intro acc
      obtain ⟨r, h1, h2, h3⟩ := ih (acc ++ [x.after.toList.flatMap fun e => if Region.binds .any e then e.on :: (acc[e.on]?).getD [] else []])
      refine ⟨(x.after.toList.flatMap fun e => if Region.binds .any e then e.on :: (acc[e.on]?).getD [] else []) :: r, ?_, by simp [h2], fun i o ho => ?_⟩
      · rw [List.foldl_cons, h1]; simp
      · cases i with
        | zero =>
          simp at ho
          subst ho
          simp only [List.getElem?_cons_zero, Nat.add_zero, List.take_left']
        | succ i =>
          have := h3 i o (by simpa using ho)
          rw [List.getElem?_cons_succ, this]
          simp only [List.append_assoc, List.singleton_append, List.length_append, List.length_singleton]
          rw [show acc.length + 1 + i = acc.length + (i + 1) by omega]
  obtain ⟨r, h1, h2, h3⟩ := key ops.toList []
  have e : preL ops = r := by unfold preL; rw [h1]; simp
  rw [e]
  refine ⟨by simpa using h2, fun j o ho => ?_⟩
  have := h3 j o (by simpa using ho)
  simpa using this

/-- Done with all that they wait for. -/
def Cl (ops : Array Oper) (D : Nat → Bool) : Prop := ∀ i e, D i = true → e ∈ ((preL ops)[i]?).getD [] → D e = true

theorem cl_ready {ops : Array Oper} {D : Nat → Bool} (h : Cl ops D) {j : Nat} {o : Oper} (ho : ops[j]? = some o) (hr : ∀ e ∈ o.after, Region.binds .any e = true → D e.on = true) : ∀ e ∈ ((preL ops)[j]?).getD [], D e = true := fun e he => by
  rw [(preL_spec ops).2 j o ho] at he
  simp only [Option.getD_some, List.mem_flatMap] at he
  obtain ⟨ed, hed, he⟩ := he
  split at he
  · rename_i hb
    have hd := hr ed (by simpa using hed) hb
    rcases List.mem_cons.1 he with rfl | he
    · exact hd
    · refine h ed.on e hd ?_
      rw [List.getElem?_take] at he
      split at he
      · exact he
      · simp at he
  · simp at he

/-- The state in which D has been done. -/
structure AtD (ops : Array Oper) (recs : List Rec) (fr0 : Fr) (H0 : Hp) (nt : Nat) (ds : List Deferred) (D : Nat → Bool) (E : En) (a : Act) : Prop where
  fr : ∀ t, RV E (a.tmps.getD t undef) (valD (Wt recs) fr0.get D ops.size t)
  H : ∀ o, E.H.get o = valD (Wo recs) H0.get D ops.size o
  sz : a.tmps.size = nt
  df : a.defers = ds
  I : Inv E
  cl : Cl ops D

theorem restr_get (H : Hp) (nm : List Nm) (o : Nm) (x : AObj) (h : (restr H nm).get o = some x) : H.get o = some x ∧ o ∈ nm := by
  have := Hp.get_mem' h
  simp only [restr, List.mem_filterMap, Option.map_eq_some_iff] at this
  obtain ⟨p, hp, y, hy, he⟩ := this
  injection he with h1 h2
  subst h1 h2
  exact ⟨hy, hp⟩

theorem conf_l {a b : Rec} (h : conf a b = false) : (∀ d, a.dst = some d → b.rs.contains d = false ∧ b.dst ≠ some d) ∧ (∀ d, b.dst = some d → a.rs.contains d = false) ∧ (∀ o, a.tw.contains o = true → b.nm.contains o = false ∧ b.tw.contains o = false) ∧ (∀ o, b.tw.contains o = true → a.nm.contains o = false) := by
  simp only [conf, Bool.or_eq_false_iff, List.any_eq_false] at h
  obtain ⟨⟨⟨h1, h2⟩, h3⟩, h4⟩ := h
  refine ⟨fun d hd => ?_, fun d hd => ?_, fun o ho => ?_, fun o ho => ?_⟩
  · rw [hd] at h1
    simp only [Bool.or_eq_false_iff, decide_eq_false_iff_not] at h1
    exact h1
  · rw [hd] at h2; exact h2
  · have := h3 o (by simpa using ho)
    simp only [Bool.or_eq_true, not_or, Bool.not_eq_true] at this
    exact this
  · have := h4 o (by simpa using ho)
    simpa using this

theorem at_step {P : Program} {cfg : Cfg} {ic : Ic} (hic : IcOk P ic) {nt : Nat} {ds : List Deferred} {ops : Array Oper} {recs : List Rec} {fr0 : Fr} {H0 : Hp} (hord : orderOk recs (preL ops) = true)
    (hst : ∀ i, i < recs.length → ∃ fri Hi ρ x, recs[i]? = some ρ ∧ dStep P cfg ic nt ops i fri Hi = some (ρ, x) ∧ (∀ t, fri.get t = valD (Wt recs) fr0.get (lt' i) ops.size t) ∧ ∀ o, Hi.get o = valD (Wo recs) H0.get (lt' i) ops.size o)
    {D : Nat → Bool} {E : En} {a : Act} (A : AtD ops recs fr0 H0 nt ds D E a) {j : Nat} {o : Oper} (hjl : j < recs.length) (ho : ops[j]? = some o) (hj : D j = false) (hr : ∀ e ∈ o.after, Region.binds .any e = true → D e.on = true)
    {Q : Exit → Act → World → Prop} {K : Act → World → Prop} (hK : ∀ E' a', AtD ops recs fr0 H0 nt ds (fun k => D k || k == j) E' a' → Step E E' → Fit E E' → K a' E'.w) : wpOp P ops Q j K a E.w := by
  have hjn : j < ops.size := (Array.getElem?_eq_some_iff.1 ho).1
  obtain ⟨frj, Hj, ρ, x, hρ, hds, hfr, hH⟩ := hst j hjl
  have hpre := cl_ready A.cl ho hr
  -- who conflicts is ordered
  have before : ∀ i ρi, recs[i]? = some ρi → i < j → conf ρi ρ = true → D i = true := fun i ρi hi hij hc => by
    simp only [orderOk, List.all_eq_true, List.mem_range] at hord
    have := hord j (by omega) i hij
    rw [hi, hρ] at this
    simp only [hc, Bool.not_true, Bool.false_or] at this
    exact hpre i (by simpa using this)
  have behind : ∀ i ρi, recs[i]? = some ρi → j < i → conf ρ ρi = true → D i = false := fun i ρi hi hij hc => by
    have hin : i < recs.length := (List.getElem?_eq_some_iff.1 hi).1
    simp only [orderOk, List.all_eq_true, List.mem_range] at hord
    have := hord i hin j hij
    rw [hi, hρ] at this
    simp only [hc, Bool.not_true, Bool.false_or] at this
    cases hD : D i with
    | false => rfl
    | true =>
      have := A.cl i j hD (by simpa using this)
      rw [hj] at this; cases this
  have slotEq : ∀ t, (ρ.rs.contains t = true ∨ ρ.dst = some t) → valD (Wt recs) fr0.get D ops.size t = frj.get t := fun t ht => by
    rw [hfr t]
    refine valD_congr _ _ ops.size (fun k hk hw => ?_)
    simp only [Wt] at hw
    cases hk' : recs[k]? with
    | none => rw [hk'] at hw; cases hw
    | some ρk =>
      rw [hk'] at hw
      simp only [] at hw
      split at hw
      · rename_i hd
        simp only [lt']
        rcases Nat.lt_trichotomy k j with h | h | h
        · rw [before k ρk hk' h (by
            cases hc : conf ρk ρ with
            | true => rfl
            | false =>
              obtain ⟨c1, c2, c3, c4⟩ := conf_l hc
              rcases ht with ht | ht
              · have := (c1 t hd).1; rw [ht] at this; cases this
              · exact absurd ht (c1 t hd).2)]
          simp [h]
        · subst h; rw [hj]; simp
        · rw [behind k ρk hk' h (by
            cases hc : conf ρ ρk with
            | true => rfl
            | false =>
              obtain ⟨c1, c2, c3, c4⟩ := conf_l hc
              rcases ht with ht | ht
              · have := c2 t hd; rw [ht] at this; cases this
              · exact absurd hd (c1 t ht).2)]
          simp; omega
      · cases hw
  have objEq : ∀ p, (ρ.nm.contains p = true ∨ ρ.tw.contains p = true) → valD (Wo recs) H0.get D ops.size p = Hj.get p := fun p hp => by
    rw [hH p]
    refine valD_congr _ _ ops.size (fun k hk hw => ?_)
    simp only [Wo] at hw
    cases hk' : recs[k]? with
    | none => rw [hk'] at hw; cases hw
    | some ρk =>
      rw [hk'] at hw
      simp only [] at hw
      split at hw
      · rename_i hd
        simp only [lt']
        rcases Nat.lt_trichotomy k j with h | h | h
        · rw [before k ρk hk' h (by
            cases hc : conf ρk ρ with
            | true => rfl
            | false =>
              obtain ⟨c1, c2, c3, c4⟩ := conf_l hc
              rcases hp with hp | hp
              · have := (c3 p hd).1; rw [hp] at this; cases this
              · have := (c3 p hd).2; rw [hp] at this; cases this)]
          simp [h]
        · subst h; rw [hj]; simp
        · rw [behind k ρk hk' h (by
            cases hc : conf ρ ρk with
            | true => rfl
            | false =>
              obtain ⟨c1, c2, c3, c4⟩ := conf_l hc
              rcases hp with hp | hp
              · have := c4 p hd; rw [hp] at this; cases this
              · have := (c3 p hp).2; rw [hd] at this; cases this)]
          simp; omega
      · cases hw
  -- what is done then
  have newCl : Cl ops (fun k => D k || k == j) := fun i e hi he => by
    simp only [Bool.or_eq_true, beq_iff_eq] at hi ⊢
    rcases hi with hi | hi
    · exact .inl (A.cl i e hi he)
    · subst hi; exact .inl (hpre e he)
  have newT : ∀ t, valD (Wt recs) fr0.get (fun k => D k || k == j) ops.size t = if ρ.dst = some t then ρ.r else valD (Wt recs) fr0.get D ops.size t := fun t => by
    split
    · rename_i hd
      refine valD_put _ _ (j := j) (by simp only [Wt, hρ, if_pos hd]) (by simp) ops.size hjn (fun k hk hjk hw => ?_)
      simp only [Wt] at hw
      cases hk' : recs[k]? with
      | none => rw [hk'] at hw; cases hw
      | some ρk =>
        rw [hk'] at hw
        simp only [] at hw
        split at hw
        · rename_i hdk
          have hb := behind k ρk hk' hjk (by
            cases hc : conf ρ ρk with
            | true => rfl
            | false => exact absurd hdk ((conf_l hc).1 t hd).2)
          simp [hb]; omega
        · cases hw
    · rename_i hd
      refine valD_congr _ _ ops.size (fun k hk hw => ?_)
      by_cases hkj : k = j
      · subst hkj; simp only [Wt, hρ, if_neg hd] at hw; cases hw
      · simp [hkj]
  have newO : ∀ p, valD (Wo recs) H0.get (fun k => D k || k == j) ops.size p = if ρ.tw.contains p = true then ρ.K'.get p else valD (Wo recs) H0.get D ops.size p := fun p => by
    split
    · rename_i hd
      refine valD_put _ _ (j := j) (by simp only [Wo, hρ, if_pos hd]) (by simp) ops.size hjn (fun k hk hjk hw => ?_)
      simp only [Wo] at hw
      cases hk' : recs[k]? with
      | none => rw [hk'] at hw; cases hw
      | some ρk =>
        rw [hk'] at hw
        simp only [] at hw
        split at hw
        · rename_i hdk
          have hb := behind k ρk hk' hjk (by
            cases hc : conf ρ ρk with
            | true => rfl
            | false => have := ((conf_l hc).2.2.1 p hd).2; rw [hdk] at this; cases this)
          simp [hb]; omega
        · cases hw
    · rename_i hd
      refine valD_congr _ _ ops.size (fun k hk hw => ?_)
      by_cases hkj : k = j
      · subst hkj; simp only [Wo, hρ, if_neg hd] at hw; cases hw
      · simp [hkj]
  -- the slots behind a put
  have slots : ∀ (E' : En) (v : Value), Fit E E' → RV E' v ρ.r → (∀ d, ρ.dst = some d → d < nt) → o.dst = ρ.dst → ∀ t, RV E' ((a.put o.dst v).tmps.getD t undef) (valD (Wt recs) fr0.get (fun k => D k || k == j) ops.size t) := fun E' v F hv hd hdst t => by
    rw [newT t, hdst]
    cases hρd : ρ.dst with
    | none => simp only [Act.put]; exact (A.fr t).mono F
    | some d =>
      simp only [Act.put]
      by_cases hdt : d = t
      · subst hdt
        rw [if_pos rfl]
        simp only [Array.getD_eq_getD_getElem?, Array.getElem?_setIfInBounds_self, A.sz, if_pos (hd d hρd), Option.getD_some]
        exact hv
      · rw [if_neg (by intro h; injection h with h; exact hdt h)]
        have := (A.fr t).mono F
        simp only [Array.getD_eq_getD_getElem?] at this ⊢
        rw [Array.getElem?_setIfInBounds_ne hdt]
        exact this
  have putSz : ∀ v, (a.put o.dst v).tmps.size = nt ∧ (a.put o.dst v).defers = ds := fun v => by
    cases o.dst <;> simp [Act.put, A.sz, A.df]
  unfold dStep at hds
  simp only [ho, Option.bind_some] at hds
  -- the guard
  have guardRV : ∀ b, wantedA ops frj o = some b → (∀ t ∈ gSlot ops o, ρ.rs.contains t = true) → Region.wanted o (yielded ops a.tmps) = b := fun b hb hsub => by
    have F : FrOk E a ((gSlot ops o).map fun t => (t, frj.get t)) := ⟨fun t => by
      rw [fr_keep]
      split
      · rename_i ht
        have := A.fr t
        rwa [slotEq t (.inl (hsub t ht))] at this
      · exact .undef _⟩
    refine wantedA_ok F (ops := ops) ?_
    rw [← hb]
    exact wantedA_congr (fun t ht => by rw [fr_keep, if_pos ht])
  unfold wpOp
  simp only [ho]
  split at hds
  · cases hds
  · rename_i hw
    rw [Option.map_eq_some_iff] at hds
    obtain ⟨st, hst', he⟩ := hds
    injection he with h1 h2
    subst h1
    rw [guardRV false hw (fun t ht => by simpa using ht), if_neg (by simp)]
    obtain ⟨g1, g2, g3⟩ := putF_get hst'
    refine hK E _ ⟨slots E undef (.refl E) (.tuple [] [] rfl (fun i v a hv => by simp at hv)) g2 rfl, fun p => by rw [newO p]; simpa using A.H p, (putSz undef).1, (putSz undef).2, A.I, newCl⟩ (.refl E) (.refl E)
  · rename_i hw
    split at hds
    · rename_i x hmv
      rw [Option.map_eq_some_iff] at hds
      obtain ⟨st, hst', he⟩ := hds
      injection he with h1 h2
      subst h1
      rw [guardRV true hw (fun t ht => by simp [ht]), if_pos rfl]
      obtain ⟨g1, g2, g3⟩ := putF_get hst'
      simp only [] at slotEq objEq newT newO slots
      have F : FrOk E a ((tmpsOf o.op.operands).map fun t => (t, frj.get t)) := ⟨fun t => by
        rw [fr_keep]
        split
        · rename_i ht
          have h := A.fr t
          rwa [slotEq t (.inl (by simp [ht]))] at h
        · exact .undef _⟩
      refine .inl ?_
      unfold Oper.wp
      rw [mv_run hmv]
      exact hK E _ ⟨slots E _ (.refl E) (F.eval x) g2 trivial, fun p => by rw [newO p]; simpa using A.H p, (putSz _).1, (putSz _).2, A.I, newCl⟩ (.refl E) (.refl E)
    split at hds
    · rename_i hcl
      simp only [Bool.and_eq_true] at hcl
      obtain ⟨hclosed, hpres⟩ := hcl
      simp only [Option.bind_eq_some_iff] at hds
      obtain ⟨⟨r, H'⟩, hop, hds⟩ := hds
      split at hds
      · rename_i hfresh
        rw [Option.map_eq_some_iff] at hds
        obtain ⟨st, hst', he⟩ := hds
        injection he with h1 h2
        subst h1
        rw [guardRV true hw (fun t ht => by simp [ht]), if_pos rfl]
        obtain ⟨g1, g2, g3⟩ := putF_get hst'
        simp only [] at slotEq objEq newT newO slots hop hfresh
        generalize hnm : reach Hj 200 ((tmpsOf o.op.operands).flatMap fun t => hdlV (frj.get t)) [] = nm at *
        have KE : ∀ p x, (restr Hj nm).get p = some x → E.H.get p = some x := fun p x hp => by
          obtain ⟨q1, q2⟩ := restr_get Hj nm p x hp
          rw [A.H p, objEq p (.inl (by simpa using q2))]; exact q1
        have hsub : SubOk E (restr Hj nm) := by
          refine ⟨KE, fun p cs hp q hq => ?_⟩
          simp only [closedK, List.all_eq_true] at hclosed
          have := hclosed (p, .cells cs) (Hp.get_mem' hp)
          simp only [List.all_eq_true] at this
          exact this q hq
        have F : FrOk ⟨E.w, E.S, E.φ, restr Hj nm⟩ a ((tmpsOf o.op.operands).map fun t => (t, frj.get t)) := ⟨fun t => by
          rw [fr_keep]
          split
          · rename_i ht
            have h := A.fr t
            rw [slotEq t (.inl (by simp [ht]))] at h
            refine RV.sub (E := E) (Er := ⟨E.w, E.S, E.φ, restr Hj nm⟩) rfl rfl rfl h (fun p hp => ?_)
            show (restr Hj nm).get p = E.H.get p
            simp only [List.all_eq_true] at hpres
            have := hpres p (List.mem_flatMap.2 ⟨t, ht, hp⟩)
            cases hk : (restr Hj nm).get p with
            | none => rw [hk] at this; cases this
            | some y => rw [KE p y hk]
          · exact .undef _⟩
        refine .inl (opR_ok hic (E := ⟨E.w, E.S, E.φ, restr Hj nm⟩) F (sub_inv A.I hsub) hop (fun v E2 hv I2 e2 S2 F2 => ?_))
        have hfresh' : ∀ p x, E2.H.get p = some x → (restr Hj nm).get p = none → E.H.get p = none := fun p x hp hk => by
          rw [e2] at hp
          by_cases hq : quietK o.op = true
          · have := quiet_H hq hop
            rw [this, hk] at hp; cases hp
          · have hmem : (twOf o H').contains p = true := by
              simp only [twOf, hq]
              simpa using Hp.get_name' hp
            rw [A.H p, objEq p (.inr hmem)]
            simp only [List.all_eq_true] at hfresh
            have := hfresh p (by simpa using hmem)
            rw [hk] at this
            simpa using this
        obtain ⟨φ', I', S', F', U'⟩ := frame_ok A.I hsub I2 S2 F2 hfresh' (E2.H ++ E.H) (fun p => Hp.get_append _ _ _)
        refine hK ⟨E2.w, E2.S, φ', E2.H ++ E.H⟩ _ ⟨slots _ v F' (hv.mono U') g2 trivial, fun p => ?_, (putSz v).1, (putSz v).2, I', newCl⟩ S' F'
        show Hp.get (E2.H ++ E.H) p = _
        rw [newO p, Hp.get_append, e2]
        by_cases hq : quietK o.op = true
        · have hH' := quiet_H hq hop
          have htw : (twOf o H').contains p = false := by simp [twOf, hq]
          rw [if_neg (by rw [htw]; simp), hH', ← A.H p]
          cases hk : (restr Hj nm).get p with
          | none => rfl
          | some y => simp only []; rw [KE p y hk]
        · cases hk : H'.get p with
          | some y =>
            have hmem : (twOf o H').contains p = true := by
              simp only [twOf, hq]
              simpa using Hp.get_name' hk
            rw [if_pos hmem]
          | none =>
            have hmem : ¬ ((twOf o H').contains p = true) := fun h => by
              simp only [twOf, hq] at h
              exact Hp.name_get' (H := H') (o := p) (by simpa using h) hk
            rw [if_neg hmem, ← A.H p]
      · cases hds
    · cases hds

theorem ready_none {ops : Array Oper} {listed : Array Bool} (hs : listed.size = ops.size) (hok : ∀ (i : Nat) (o : Oper), ops[i]? = some o → ∀ e ∈ o.after, Region.binds .any e = true → e.on < i)
    (h : Region.ready .any ops listed = []) : ∀ i, i < ops.size → listed.getD i false = true := by
  intro i
  induction i using Nat.strongRecOn with
  | _ i ih =>
    intro hi
    cases hl : listed.getD i false with
    | true => rfl
    | false =>
      exfalso
      have hm : i ∈ Region.ready .any ops listed := by
        refine mem_ready.2 ⟨?_, ops[i], Array.getElem?_eq_getElem hi, fun e he hb => ih e.on (hok i _ (Array.getElem?_eq_getElem hi) e he hb) (by have := hok i _ (Array.getElem?_eq_getElem hi) e he hb; omega)⟩
        rw [Array.getD_eq_getD_getElem?, Array.getElem?_eq_getElem (by omega)] at hl ⊢
        exact hl
      rw [h] at hm; cases hm

def edgesOk (ops : Array Oper) : Bool := (List.range ops.size).all fun i => match ops[i]? with
  | some o => o.after.toList.all fun e => !Region.binds .any e || decide (e.on < i)
  | none => true
theorem edgesOk_spec {ops : Array Oper} (h : edgesOk ops = true) (i : Nat) (o : Oper) (ho : ops[i]? = some o) : ∀ e ∈ o.after, Region.binds .any e = true → e.on < i := fun e he hb => by
  have hi := (Array.getElem?_eq_some_iff.1 ho).1
  simp only [edgesOk, List.all_eq_true, List.mem_range] at h
  have := h i hi
  rw [ho] at this
  simp only [List.all_eq_true] at this
  have := this e (by simpa using he)
  rw [hb] at this
  simpa using this

theorem any_ok {P : Program} {cfg : Cfg} {ic : Ic} (hic : IcOk P ic) {nt : Nat} {ds : List Deferred} {ops : Array Oper} {recs : List Rec} {fr0 : Fr} {H0 : Hp} (hlen : recs.length = ops.size) (hord : orderOk recs (preL ops) = true) (hedge : edgesOk ops = true)
    (hst : ∀ i, i < ops.size → ∃ fri Hi ρ x, recs[i]? = some ρ ∧ dStep P cfg ic nt ops i fri Hi = some (ρ, x) ∧ (∀ t, fri.get t = valD (Wt recs) fr0.get (lt' i) ops.size t) ∧ ∀ o, Hi.get o = valD (Wo recs) H0.get (lt' i) ops.size o)
    {Q : Exit → Act → World → Prop} {E0 : En} (N : Nm → Prop) (hQ : ∀ D E a, AtD ops recs fr0 H0 nt ds D E a → (∀ i, i < ops.size → D i = true) → Step E0 E → Pin N E0 E → Q .normal a E.w) :
    ∀ (fuel : Nat) (listed : Array Bool) (E : En) (a : Act), listed.size = ops.size → (∀ D, (∀ i, D i = listed.getD i false) → AtD ops recs fr0 H0 nt ds D E a) → Step E0 E → Pin N E0 E →
      ops.size ≤ fuel + (List.range ops.size).countP (fun i => listed.getD i false) → wpAny P .any ops Q fuel listed a E.w := by
  intro fuel
  have done : ∀ (listed : Array Bool) (E : En) (a : Act), listed.size = ops.size → (∀ D, (∀ i, D i = listed.getD i false) → AtD ops recs fr0 H0 nt ds D E a) → Step E0 E → Pin N E0 E → Region.ready .any ops listed = [] → Q .normal a E.w := fun listed E a hs hA S0 P0 hr =>
    hQ (fun i => listed.getD i false) E a (hA _ (fun _ => rfl)) (ready_none hs (edgesOk_spec hedge) hr) S0 P0
  induction fuel with
  | zero =>
    intro listed E a hs hA S0 P0 hf
    have hall : ∀ i ∈ List.range ops.size, listed.getD i false = true := by
      have : (List.range ops.size).countP (fun i => listed.getD i false) = (List.range ops.size).length := by
        have := List.countP_le_length (p := fun i => listed.getD i false) (l := List.range ops.size)
        simp at hf this ⊢; omega
      exact List.countP_eq_length.1 this
    have hr : Region.ready .any ops listed = [] := by
      apply List.eq_nil_iff_forall_not_mem.2
      intro j hj
      obtain ⟨h1, o, h2, h3⟩ := mem_ready.1 hj
      have hjn := (Array.getElem?_eq_some_iff.1 h2).1
      have := hall j (by simpa using hjn)
      rw [Array.getD_eq_getD_getElem?, Array.getElem?_eq_getElem (by omega)] at h1 this
      simp at h1 this
      rw [h1] at this; cases this
    exact ⟨hr, done listed E a hs hA S0 P0 hr⟩
  | succ fuel ih =>
    intro listed E a hs hA S0 P0 hf
    refine ⟨fun hr => done listed E a hs hA S0 P0 hr, fun j hj => ?_⟩
    obtain ⟨h1, o, ho, h3⟩ := mem_ready.1 hj
    have hjn := (Array.getElem?_eq_some_iff.1 ho).1
    have hjf : listed.getD j false = false := by
      rw [Array.getD_eq_getD_getElem?, Array.getElem?_eq_getElem (by omega)] at h1 ⊢
      exact h1
    refine at_step hic hord (fun i hi => hst i (by omega)) (hA (fun i => listed.getD i false) (fun _ => rfl)) (by omega) ho hjf h3 (fun E' a' A' S' F' => ?_)
    have hset : ∀ i, (listed.setIfInBounds j true).getD i false = (listed.getD i false || i == j) := fun i => by
      rw [Array.getD_eq_getD_getElem?, Array.getElem?_setIfInBounds]
      by_cases hij : j = i
      · subst hij; simp [hs, hjn]
      · rw [if_neg hij, ← Array.getD_eq_getD_getElem?]
        simp [Ne.symm hij]
    have hI : Inv E := (hA (fun i => listed.getD i false) (fun _ => rfl)).I
    refine ih _ E' a' (by simpa using hs) (fun D hD => ?_) (S0.trans hI S') (P0.trans (F'.pin N)) ?_
    · have e : D = fun k => listed.getD k false || k == j := by funext k; rw [hD k, hset k]
      rw [e]; exact A'
    · have hcnt : (List.range ops.size).countP (fun i => (listed.setIfInBounds j true).getD i false) = (List.range ops.size).countP (fun i => listed.getD i false) + 1 := by
        have key : ∀ (l : List Nat), l.Nodup → j ∈ l → l.countP (fun i => listed.getD i false || i == j) = l.countP (fun i => listed.getD i false) + 1 := fun l => by
          induction l with
          | nil => intro _ h; cases h
          | cons x r ihl =>
            intro hn hm
            rw [List.nodup_cons] at hn
            simp only [List.countP_cons]
            by_cases hx : x = j
            · subst hx
              have : r.countP (fun i => listed.getD i false || i == x) = r.countP (fun i => listed.getD i false) := by
                apply List.countP_congr
                intro y hy
                have : y ≠ x := fun e => hn.1 (e ▸ hy)
                simp [this]
              rw [this]; simp [hjf]
            · have hmr : j ∈ r := by simpa [Ne.symm hx] using hm
              rw [ihl hn.2 hmr]
              simp [hx]; omega
        rw [← key (List.range ops.size) List.nodup_range (by simpa using hjn)]
        apply List.countP_congr
        intro y _
        rw [hset y]
      rw [hcnt]; omega

/-- A region whose order is drawn: all that meets is ordered. -/
def drRun (P : Program) (cfg : Cfg) (ic : Ic) (nt : Nat) (ops : Array Oper) (st : St) : Option (Option AV × St) :=
  if edgesOk ops && P.follows .mixedOrders then
  (dGo P cfg ic nt ops ops.size 0 st.fr st.H []).bind fun x => if orderOk x.1 (preL ops) then some (none, ⟨x.2.1, x.2.2⟩) else none
  else none

theorem drRun_ok {P : Program} {cfg : Cfg} {ic : Ic} (hic : IcOk P ic) {nt : Nat} {ds : List Deferred} {ops : Array Oper} {st st' : St} {p : Option AV} (h : drRun P cfg ic nt ops st = some (p, st')) (N : Nm → Prop) {E : En} {a : Act} (R : SR nt ds E a st) (id : Nat) :
    (Code.region id ops true).wp P (Post nt ds N E (opFx p) st') a E.w := by
  unfold drRun at h
  split at h
  · rename_i hh
    simp only [Bool.and_eq_true] at hh
    obtain ⟨hedge, hmix⟩ := hh
    simp only [Option.bind_eq_some_iff] at h
    obtain ⟨⟨recs, frn, Hn⟩, hgo, h⟩ := h
    split at h
    · rename_i hord
      injection h with h
      injection h with h1 h2
      subst h1 h2
      obtain ⟨t1, t2, t3, t4⟩ := trace (fr0 := st.fr) (H0 := st.H) ops.size 0 st.fr st.H [] recs frn Hn hgo rfl (fun t => rfl) (fun o => rfl) (fun i hi => by omega)
      simp only [Nat.zero_add] at t1 t2 t3 t4
      have v0 : ∀ {α β : Type} (W : Nat → α → Option β) (b : α → β) (l : α), valD W b (fun _ => false) ops.size l = b l := fun W b l => by
        have key : ∀ n, valD W b (fun _ => false) n l = b l := fun n => by
          induction n with
          | zero => rfl
          | succ n ih => simp only [valD]; exact ih
        exact key _
      refine wp_region_any hmix ?_
      have hw : ({ heap := E.w.heap, tape := E.w.tape, drawn := E.w.drawn + 1, os := E.w.os, output := E.w.output } : World) = (⟨E.w.drew, E.S, E.φ, E.H⟩ : En).w := rfl
      have hfit : Fit E ⟨E.w.drew, E.S, E.φ, E.H⟩ := ⟨fun b hb => ⟨hb, rfl⟩, fun o x hx => ⟨x, hx, Compat.self rfl x⟩⟩
      have hinv : Inv ⟨E.w.drew, E.S, E.φ, E.H⟩ := ⟨fun o x hx => (R.I.obj o x hx).mono hfit rfl rfl, R.I.dist, R.I.free, R.I.sin⟩
      have hstep : Step E ⟨E.w.drew, E.S, E.φ, E.H⟩ := ⟨rfl, rfl, rfl, Nat.le_refl _, fun _ _ _ => rfl, fun _ h => h, fun _ h _ => h⟩
      show wpAny P .any ops _ ops.size (Array.replicate ops.size false) a (⟨E.w.drew, E.S, E.φ, E.H⟩ : En).w
      refine any_ok (ds := ds) hic (fr0 := st.fr) (H0 := st.H) t1 hord hedge t4 N (E0 := E) (fun D E1 a1 A1 hall S1 P1 => ?_) ops.size _ ⟨E.w.drew, E.S, E.φ, E.H⟩ a (by simp) (fun D hD => ?_) hstep (hfit.pin N) (by omega)
      · -- the end
        have eT : ∀ t, valD (Wt recs) st.fr.get D ops.size t = frn.get t := fun t => by
          rw [t2 t]; exact valD_congr _ _ ops.size (fun k hk _ => hall k hk)
        have eO : ∀ o, E1.H.get o = Hn.get o := fun o => by
          rw [A1.H o, t3 o]; exact valD_congr _ _ ops.size (fun k hk _ => hall k hk)
        have F : Fit E1 ⟨E1.w, E1.S, E1.φ, Hn⟩ := ⟨fun b hb => ⟨hb, rfl⟩, fun o x hx => ⟨x, by show Hn.get o = _; rw [← eO]; exact hx, Compat.self rfl x⟩⟩
        have I2 : Inv ⟨E1.w, E1.S, E1.φ, Hn⟩ := ⟨fun o x hx => (A1.I.obj o x (by rw [eO]; exact hx)).mono F rfl rfl, fun o o' x x' hx hx' => A1.I.dist o o' x x' (by rw [eO]; exact hx) (by rw [eO]; exact hx'), fun o x hx => A1.I.free o x (by rw [eO]; exact hx), A1.I.sin⟩
        refine ⟨⟨E1.w, E1.S, E1.φ, Hn⟩, rfl, ⟨⟨fun t => ?_⟩, A1.sz, A1.df, rfl, I2⟩, S1.trans A1.I ⟨rfl, rfl, rfl, Nat.le_refl _, fun _ _ _ => rfl, fun _ h => h, fun b hb _ => ?_⟩, P1.trans (F.pin N), trivial⟩
        · rw [← eT t]; exact (A1.fr t).mono F
        · rcases hb with h | ⟨o, x, hx, hl, hb⟩
          · exact .inl h
          · exact .inr ⟨o, x, by rw [eO]; exact hx, hl, hb⟩
      · have hD' : D = fun _ => false := by
          funext i
          rw [hD i, Array.getD_eq_getD_getElem?, Array.getElem?_replicate]
          split <;> rfl
        subst hD'
        refine ⟨fun t => ?_, fun o => ?_, R.sz, R.df, hinv, fun i e hi => by cases hi⟩
        · rw [v0]; exact (R.fr.rv t).mono hfit
        · rw [v0]
          show E.H.get o = st.H.get o
          rw [R.H]
    · cases h
  · cases h

/-- The place of a region's one call of a function of the program's. -/
def callAt : List Oper → Option Nat
  | [] => none
  | o :: l => match o.op with
    | .call c => match c.callee with
      | .value _ => some 0
      | _ => (callAt l).map (· + 1)
    | _ => (callAt l).map (· + 1)
def dstsU (ops : Array Oper) (fr : Fr) : Fr := (ops.toList.filterMap (·.dst)).map (fun t => (t, AV.undef)) ++ fr
/-- The reads of the call are all done ahead of it, by those that it waits for. -/
def readsOk (recs : List Rec) (pre : List Nat) (rs : List Nat) : Bool := (List.range recs.length).all fun i => match recs[i]? with
  | some ρ => match ρ.dst with
    | some t => !rs.contains t || pre.contains i
    | none => true
  | none => true
def behindOk (pre : List (List Nat)) (n p : Nat) : Bool := (List.range n).all fun k => decide (k ≤ p) || ((pre[k]?).getD []).contains p
/-- A region whose order is drawn, and whose one call panics: none if it does not. -/
def drPan (P : Program) (cfg : Cfg) (ic : Ic) (nt : Nat) (ops : Array Oper) (p : Nat) (st : St) : Option (Option (AV × St)) :=
  (dGo P cfg ic nt ops p 0 st.fr st.H []).bind fun x => (ops[p]?).bind fun o => match o.op with
    | .call c => match c.callee with
      | .value fv => match evA ((tmpsOf o.op.operands).map fun t => (t, x.2.1.get t)) fv with
        | .fn f caps => if plainF P f then (callA cfg ic (o.dst.getD 0) f (c.args.toList.map (evA ((tmpsOf o.op.operands).map fun t => (t, x.2.1.get t))) ++ caps) st.H).bind fun r => match r.1 with
            | .pan v => if edgesOk ops && P.follows .mixedOrders && orderOk x.1 (preL ops) && x.1.all (fun ρ => ρ.tw.isEmpty) && o.guard.isNone && behindOk (preL ops) ops.size p && readsOk x.1 (((preL ops)[p]?).getD []) (tmpsOf o.op.operands) then some (some (v, ⟨dstsU ops st.fr, r.2⟩)) else none
            | .ret _ => some none
          else none
        | _ => none
      | _ => none
    | _ => none
def drRunP (P : Program) (cfg : Cfg) (ic : Ic) (nt : Nat) (ops : Array Oper) (st : St) : Option (Option AV × St) :=
  match callAt ops.toList with
  | none => drRun P cfg ic nt ops st
  | some p => (drPan P cfg ic nt ops p st).bind fun r => match r with
    | some (v, s) => some (some v, s)
    | none => drRun P cfg ic nt ops st
theorem valD_ext {α β : Type} {W : Nat → α → Option β} {base : α → β} {D : Nat → Bool} {l : α} {m : Nat} (hW : ∀ k, m ≤ k → W k l = none) : ∀ n, m ≤ n → valD W base D n l = valD W base D m l := by
  intro n
  induction n with
  | zero => intro h; rw [show m = 0 by omega]
  | succ n ih =>
    intro h
    by_cases hm : m = n + 1
    · rw [hm]
    · simp only [valD]
      rw [hW n (by omega)]
      have := ih (by omega)
      cases D n <;> simpa using this
theorem valD_base {α β : Type} {W : Nat → α → Option β} {base : α → β} {D : Nat → Bool} {l : α} (hW : ∀ k, W k l = none) (n : Nat) : valD W base D n l = base l := by
  rw [valD_ext (m := 0) (fun k _ => hW k) n (by omega)]; rfl
theorem dstsU_get (ops : Array Oper) (fr : Fr) (t : Nat) : (dstsU ops fr).get t = .undef ∨ ((dstsU ops fr).get t = fr.get t ∧ ∀ o ∈ ops.toList, o.dst ≠ some t) := by
  unfold dstsU
  have key : ∀ l : List Oper, Fr.get ((l.filterMap (·.dst)).map (fun t => (t, AV.undef)) ++ fr) t = .undef ∨ (Fr.get ((l.filterMap (·.dst)).map (fun t => (t, AV.undef)) ++ fr) t = fr.get t ∧ ∀ o ∈ l, o.dst ≠ some t) := fun l => by
    induction l with
    | nil => exact .inr ⟨rfl, fun o h => by cases h⟩
    | cons o l ih =>
      cases hd : o.dst with
      | none =>
        simp only [List.filterMap_cons, hd]
        rcases ih with h | ⟨h1, h2⟩
        · exact .inl h
        · refine .inr ⟨h1, fun o' ho' => ?_⟩
          rcases List.mem_cons.1 ho' with rfl | ho'
          · rw [hd]; simp
          · exact h2 o' ho'
      | some d =>
        simp only [List.filterMap_cons, hd, List.map_cons, List.cons_append, Fr.get]
        by_cases h : d = t
        · rw [if_pos h]; exact .inl rfl
        · rw [if_neg h]
          rcases ih with h' | ⟨h1, h2⟩
          · exact .inl h'
          · refine .inr ⟨h1, fun o' ho' => ?_⟩
            rcases List.mem_cons.1 ho' with rfl | ho'
            · rw [hd]; intro e; injection e with e; exact h e
            · exact h2 o' ho'
  exact key _
theorem dStep_dst {P : Program} {cfg : Cfg} {ic : Ic} {nt : Nat} {ops : Array Oper} {j : Nat} {fr : Fr} {H : Hp} {ρ : Rec} {x : Fr × Hp} (h : dStep P cfg ic nt ops j fr H = some (ρ, x)) : ∃ o, ops[j]? = some o ∧ ρ.dst = o.dst := by
  unfold dStep at h
  simp only [Option.bind_eq_some_iff] at h
  obtain ⟨o, ho, h⟩ := h
  refine ⟨o, ho, ?_⟩
  split at h
  · cases h
  · rw [Option.map_eq_some_iff] at h
    obtain ⟨st, hst, h⟩ := h
    injection h with h1 h2
    subst h1; rfl
  · split at h
    · rw [Option.map_eq_some_iff] at h
      obtain ⟨st, hst, h⟩ := h
      injection h with h1 h2
      subst h1; rfl
    · split at h
      · simp only [Option.bind_eq_some_iff] at h
        obtain ⟨y, hy, h⟩ := h
        split at h
        · rw [Option.map_eq_some_iff] at h
          obtain ⟨st, hst, h⟩ := h
          injection h with h1 h2
          subst h1; rfl
        · cases h
      · cases h
/-- In whatever order: the call panics, and what was done ahead of it turned nothing. -/
theorem pan_any {P : Program} {cfg : Cfg} {ic : Ic} (hic : IcOk P ic) {nt : Nat} {ds : List Deferred} {ops : Array Oper} {recs : List Rec} {fr0 : Fr} {H0 : Hp} {p : Nat} (hlen : recs.length = p) (hp : p < ops.size) (hord : orderOk recs (preL ops) = true) (hedge : edgesOk ops = true)
    (hst : ∀ i, i < recs.length → ∃ fri Hi ρ x, recs[i]? = some ρ ∧ dStep P cfg ic nt ops i fri Hi = some (ρ, x) ∧ (∀ t, fri.get t = valD (Wt recs) fr0.get (lt' i) ops.size t) ∧ ∀ o, Hi.get o = valD (Wo recs) H0.get (lt' i) ops.size o)
    (hbeh : behindOk (preL ops) ops.size p = true) {Q : Exit → Act → World → Prop} {E0 : En} (N : Nm → Prop)
    (hQ : ∀ D E a (K : Act → World → Prop), AtD ops recs fr0 H0 nt ds D E a → (∀ i, D i = true → i < p) → (∀ e ∈ ((preL ops)[p]?).getD [], D e = true) → Step E0 E → Pin N E0 E → wpOp P ops Q p K a E.w) :
    ∀ (fuel : Nat) (listed : Array Bool) (E : En) (a : Act), listed.size = ops.size → (∀ i, listed.getD i false = true → i < p) → (∀ D, (∀ i, D i = listed.getD i false) → AtD ops recs fr0 H0 nt ds D E a) → Step E0 E → Pin N E0 E →
      ops.size ≤ fuel + (List.range ops.size).countP (fun i => listed.getD i false) → wpAny P .any ops Q fuel listed a E.w := by
  intro fuel
  have nready : ∀ (listed : Array Bool), listed.size = ops.size → (∀ i, listed.getD i false = true → i < p) → Region.ready .any ops listed = [] → False := fun listed hs hlt hr => by
    have := ready_none hs (edgesOk_spec hedge) hr p hp
    have := hlt p this
    omega
  induction fuel with
  | zero =>
    intro listed E a hs hlt hA S0 P0 hf
    exfalso
    have hall : ∀ i ∈ List.range ops.size, listed.getD i false = true := by
      have : (List.range ops.size).countP (fun i => listed.getD i false) = (List.range ops.size).length := by
        have := List.countP_le_length (p := fun i => listed.getD i false) (l := List.range ops.size)
        simp at hf this ⊢; omega
      exact List.countP_eq_length.1 this
    have := hlt p (hall p (by simpa using hp))
    omega
  | succ fuel ih =>
    intro listed E a hs hlt hA S0 P0 hf
    refine ⟨fun hr => (nready listed hs hlt hr).elim, fun j hj => ?_⟩
    obtain ⟨h1, o, ho, h3⟩ := mem_ready.1 hj
    have hjn := (Array.getElem?_eq_some_iff.1 ho).1
    have hjf : listed.getD j false = false := by
      rw [Array.getD_eq_getD_getElem?, Array.getElem?_eq_getElem (by omega)] at h1 ⊢
      exact h1
    have A0 := hA (fun i => listed.getD i false) (fun _ => rfl)
    have hpre := cl_ready A0.cl ho h3
    rcases Nat.lt_trichotomy j p with hjp | hjp | hjp
    · refine at_step hic hord hst A0 (by omega) ho hjf h3 (fun E' a' A' S' F' => ?_)
      have hset : ∀ i, (listed.setIfInBounds j true).getD i false = (listed.getD i false || i == j) := fun i => by
        rw [Array.getD_eq_getD_getElem?, Array.getElem?_setIfInBounds]
        by_cases hij : j = i
        · subst hij; simp [hs, hjn]
        · rw [if_neg hij, ← Array.getD_eq_getD_getElem?]
          simp [Ne.symm hij]
      have hI : Inv E := A0.I
      refine ih _ E' a' (by simpa using hs) (fun i hi => ?_) (fun D hD => ?_) (S0.trans hI S') (P0.trans (F'.pin N)) ?_
      · rw [hset] at hi
        simp only [Bool.or_eq_true, beq_iff_eq] at hi
        rcases hi with hi | hi
        · exact hlt i hi
        · omega
      · have e : D = fun k => listed.getD k false || k == j := by funext k; rw [hD k, hset k]
        rw [e]; exact A'
      · have hcnt : (List.range ops.size).countP (fun i => (listed.setIfInBounds j true).getD i false) = (List.range ops.size).countP (fun i => listed.getD i false) + 1 := by
          have key : ∀ (l : List Nat), l.Nodup → j ∈ l → l.countP (fun i => listed.getD i false || i == j) = l.countP (fun i => listed.getD i false) + 1 := fun l => by
            induction l with
            | nil => intro _ h; cases h
            | cons x r ihl =>
              intro hn hm
              rw [List.nodup_cons] at hn
              simp only [List.countP_cons]
              by_cases hx : x = j
              · subst hx
                have : r.countP (fun i => listed.getD i false || i == x) = r.countP (fun i => listed.getD i false) := by
                  apply List.countP_congr
                  intro y hy
                  have : y ≠ x := fun e => hn.1 (e ▸ hy)
                  simp [this]
                rw [this]; simp [hjf]
              · have hmr : j ∈ r := by simpa [Ne.symm hx] using hm
                rw [ihl hn.2 hmr]
                simp [hx]; omega
          rw [← key (List.range ops.size) List.nodup_range (by simpa using hjn)]
          apply List.countP_congr
          intro y _
          rw [hset y]
        rw [hcnt]; omega
    · subst hjp
      exact hQ (fun i => listed.getD i false) E a _ A0 (fun i hi => hlt i hi) hpre S0 P0
    · exfalso
      simp only [behindOk, List.all_eq_true, List.mem_range, Bool.or_eq_true, decide_eq_true_eq] at hbeh
      rcases hbeh j hjn with h | h
      · omega
      · have := hlt p (hpre p (by simpa using h))
        omega
theorem drPan_ok {P : Program} {cfg : Cfg} {ic : Ic} (hic : IcOk P ic) {nt : Nat} {ds : List Deferred} {ops : Array Oper} {p : Nat} {st st' : St} {v : AV} (h : drPan P cfg ic nt ops p st = some (some (v, st'))) (N : Nm → Prop) {E : En} {a : Act} (R : SR nt ds E a st) (id : Nat) :
    (Code.region id ops true).wp P (Post nt ds N E (.pan v) st') a E.w := by
  unfold drPan at h
  simp only [Option.bind_eq_some_iff] at h
  obtain ⟨⟨recs, frn, Hn⟩, hgo, o, ho, h⟩ := h
  split at h
  · rename_i c hoc
    split at h
    · rename_i fv hcal
      split at h
      · rename_i f caps hf
        split at h
        · rename_i hpl
          simp only [Option.bind_eq_some_iff] at h
          obtain ⟨⟨r, H'⟩, hr, h⟩ := h
          cases r with
          | ret b => cases h
          | pan b =>
          simp only [] at h
          split at h
          · rename_i hh
            injection h with h
            injection h with h
            injection h with h1 h2
            subst h1 h2
            simp only [Bool.and_eq_true] at hh
            obtain ⟨⟨⟨⟨⟨⟨hedge, hmix⟩, hord⟩, htw⟩, hgd⟩, hbeh⟩, hread⟩ := hh
            obtain ⟨t1, t2, t3, t4⟩ := trace (fr0 := st.fr) (H0 := st.H) p 0 st.fr st.H [] recs frn Hn hgo rfl (fun t => rfl) (fun o => rfl) (fun i hi => by omega)
            simp only [Nat.zero_add] at t1 t2 t3 t4
            have hpn : p < ops.size := (Array.getElem?_eq_some_iff.1 ho).1
            have rnone : ∀ k, p ≤ k → recs[k]? = none := fun k hk => List.getElem?_eq_none (by omega)
            have wtn : ∀ t k, p ≤ k → Wt recs k t = none := fun t k hk => by simp only [Wt, rnone k hk]
            have won : ∀ q k, p ≤ k → Wo recs k q = none := fun q k hk => by simp only [Wo, rnone k hk]
            have woN : ∀ q k, Wo recs k q = none := fun q k => by
              simp only [Wo]
              cases hk : recs[k]? with
              | none => rfl
              | some ρ =>
                have hm : ρ ∈ recs := List.mem_of_getElem? hk
                rw [List.all_eq_true] at htw
                have := htw ρ hm
                simp only [List.isEmpty_iff] at this
                simp only [this]; simp
            have hst : ∀ i, i < recs.length → ∃ fri Hi ρ x, recs[i]? = some ρ ∧ dStep P cfg ic nt ops i fri Hi = some (ρ, x) ∧ (∀ t, fri.get t = valD (Wt recs) st.fr.get (lt' i) ops.size t) ∧ ∀ o, Hi.get o = valD (Wo recs) st.H.get (lt' i) ops.size o := fun i hi => by
              obtain ⟨fri, Hi, ρ, x, a1, a2, a3, a4⟩ := t4 i (by omega)
              exact ⟨fri, Hi, ρ, x, a1, a2, fun t => by rw [a3 t, valD_ext (m := p) (wtn t) ops.size (by omega)], fun q => by rw [a4 q, valD_ext (m := p) (won q) ops.size (by omega)]⟩
            refine wp_region_any hmix ?_
            have hfit : Fit E ⟨E.w.drew, E.S, E.φ, E.H⟩ := ⟨fun b hb => ⟨hb, rfl⟩, fun o x hx => ⟨x, hx, Compat.self rfl x⟩⟩
            have hinv : Inv ⟨E.w.drew, E.S, E.φ, E.H⟩ := ⟨fun o x hx => (R.I.obj o x hx).mono hfit rfl rfl, R.I.dist, R.I.free, R.I.sin⟩
            have hstep : Step E ⟨E.w.drew, E.S, E.φ, E.H⟩ := ⟨rfl, rfl, rfl, Nat.le_refl _, fun _ _ _ => rfl, fun _ h => h, fun _ h _ => h⟩
            show wpAny P .any ops _ ops.size (Array.replicate ops.size false) a (⟨E.w.drew, E.S, E.φ, E.H⟩ : En).w
            refine pan_any (ds := ds) hic (fr0 := st.fr) (H0 := st.H) t1 hpn hord hedge hst hbeh N (E0 := E) (fun D E1 a1 K A1 hlt hpre S1 P1 => ?_) ops.size _ ⟨E.w.drew, E.S, E.φ, E.H⟩ a (by simp) (fun i hi => ?_) (fun D hD => ?_) hstep (hfit.pin N) (by omega)
            · -- the panic
              have eO : ∀ q, E1.H.get q = st.H.get q := fun q => by rw [A1.H q, valD_base (fun k => woN q k)]
              have F : Fit E1 ⟨E1.w, E1.S, E1.φ, st.H⟩ := ⟨fun b hb => ⟨hb, rfl⟩, fun o x hx => ⟨x, by show st.H.get o = _; rw [← eO]; exact hx, Compat.self rfl x⟩⟩
              have I2 : Inv ⟨E1.w, E1.S, E1.φ, st.H⟩ := ⟨fun o x hx => (A1.I.obj o x (by rw [eO]; exact hx)).mono F rfl rfl, fun o o' x x' hx hx' => A1.I.dist o o' x x' (by rw [eO]; exact hx) (by rw [eO]; exact hx'), fun o x hx => A1.I.free o x (by rw [eO]; exact hx), A1.I.sin⟩
              have S12 : Step E1 ⟨E1.w, E1.S, E1.φ, st.H⟩ := ⟨rfl, rfl, rfl, Nat.le_refl _, fun _ _ _ => rfl, fun _ h => h, fun b hb _ => by
                rcases hb with h | ⟨o, x, hx, hl, hb⟩
                · exact .inl h
                · exact .inr ⟨o, x, by rw [eO]; exact hx, hl, hb⟩⟩
              have F2 : FrOk ⟨E1.w, E1.S, E1.φ, st.H⟩ a1 ((tmpsOf o.op.operands).map fun t => (t, frn.get t)) := ⟨fun t => by
                rw [fr_keep]
                split
                · rename_i ht
                  have e : valD (Wt recs) st.fr.get D ops.size t = frn.get t := by
                    rw [t2 t, ← valD_ext (m := p) (wtn t) ops.size (by omega)]
                    refine valD_congr _ _ ops.size (fun k hk hw => ?_)
                    simp only [Wt] at hw
                    cases hk' : recs[k]? with
                    | none => rw [hk'] at hw; cases hw
                    | some ρ =>
                      rw [hk'] at hw
                      simp only [] at hw
                      split at hw
                      · rename_i hd
                        have hkl : k < recs.length := (List.getElem?_eq_some_iff.1 hk').1
                        simp only [readsOk, List.all_eq_true, List.mem_range] at hread
                        have := hread k hkl
                        rw [hk'] at this
                        simp only [hd, Bool.or_eq_true, Bool.not_eq_true'] at this
                        rcases this with h | h
                        · rw [List.contains_eq_mem] at h; simp at h; exact absurd ht h
                        · rw [hpre k (by simpa using h)]
                      · cases hw
                  rw [← e]; exact (A1.fr t).mono F
                · exact .undef _⟩
              unfold wpOp
              simp only [ho]
              have hwant : Region.wanted o (yielded ops a1.tmps) = true := by
                unfold Region.wanted
                cases hg : o.guard with
                | none => rfl
                | some g => rw [hg] at hgd; cases hgd
              rw [if_pos hwant]
              refine .inl ?_
              have hfv := F2.eval fv
              rw [hf] at hfv
              generalize hfe : a1.eval fv = fval at hfv
              cases hfv with
              | fn _ cs _ hl hcr =>
              have hargs : ArgsOk ⟨E1.w, E1.S, E1.φ, st.H⟩ (c.args.toList.map a1.eval ++ cs) (c.args.toList.map (evA ((tmpsOf o.op.operands).map fun t => (t, frn.get t))) ++ caps) := by
                refine ⟨by simp [hl], fun i v b hv hb => ?_⟩
                by_cases hi : i < c.args.toList.length
                · rw [List.getElem?_append_left (by simpa using hi), List.getElem?_map, Option.map_eq_some_iff] at hv hb
                  obtain ⟨x, hx, rfl⟩ := hv
                  obtain ⟨y, hy, rfl⟩ := hb
                  rw [hx] at hy; injection hy with hy; subst hy
                  exact F2.eval x
                · rw [List.getElem?_append_right (by simp at hi ⊢; omega)] at hv hb
                  simp only [List.length_map] at hv hb
                  exact hcr _ v b hv hb
              have hcall := callA_ok (P := P) hic I2 hargs hr
              have hrun : (execOp a1.eval o).run P E1.w = .ok (.enter f (c.args.toList.map a1.eval ++ cs).toArray) E1.w := by
                unfold plainF at hpl
                cases hfn : P.funcs[f]? with
                | none => rw [hfn] at hpl; cases hpl
                | some fn =>
                  rw [hfn] at hpl
                  simp only [Bool.and_eq_true, Bool.not_eq_true'] at hpl
                  have hb : fn.body.isNone = false := by cases hbb : fn.body with
                    | none => rw [hbb] at hpl; simp at hpl
                    | some x => rfl
                  have hname : ¬ ((fn.name == "runtime.NumGoroutine") = true) := by rw [hpl.1]; simp
                  have earr : (Array.map a1.eval c.args ++ cs.toArray) = (c.args.toList.map a1.eval ++ cs).toArray := by apply Array.ext'; simp
                  unfold execOp
                  simp only [hoc, resolve, hcal, hfe, Deferred.ofValue, Sem.run_bind, Sem.run_pure, Result.andThen_ok, invoke, callFunc, run_program, hfn, hb, if_neg hname]
                  simp [earr]
              unfold Oper.wp
              rw [hrun]
              simp only [Oper.upon_enter]
              refine hcall.mono ?_
              rintro e w' ⟨E', rfl, I', e', S', F', hres⟩
              cases e with
              | returned v => exact hres.elim
              | outgrown => exact hres.elim
              | panicked chain =>
                obtain ⟨v', rfl, hv'⟩ := hres
                refine ⟨E', rfl, ⟨⟨fun t => ?_⟩, A1.sz, A1.df, e', I'⟩, (S1.trans A1.I S12).trans I2 S', P1.trans ((F.trans F').pin N), v', rfl, hv'⟩
                rcases dstsU_get ops st.fr t with h | ⟨h1, h2⟩
                · rw [h]; exact .undef _
                · rw [h1]
                  have e : valD (Wt recs) st.fr.get D ops.size t = st.fr.get t := valD_base (fun k => by
                    simp only [Wt]
                    cases hk : recs[k]? with
                    | none => rfl
                    | some ρ =>
                      have hkl : k < recs.length := (List.getElem?_eq_some_iff.1 hk).1
                      obtain ⟨fri, Hi, ρ', x, a1', a2, _, _⟩ := t4 k (by omega)
                      rw [hk] at a1'
                      injection a1' with a1'
                      subst a1'
                      obtain ⟨ok, hok, hdk⟩ := dStep_dst a2
                      have : ok.dst ≠ some t := h2 ok (by rw [← Array.getElem?_toList] at hok; exact List.mem_of_getElem? hok)
                      simp only []
                      rw [if_neg (by rw [hdk]; exact this)]) _
                  rw [← e]
                  exact ((A1.fr t).mono F).mono F'
            · rw [Array.getD_eq_getD_getElem?, Array.getElem?_replicate] at hi
              split at hi <;> cases hi
            · have hD' : D = fun _ => false := by
                funext i
                rw [hD i, Array.getD_eq_getD_getElem?, Array.getElem?_replicate]
                split <;> rfl
              subst hD'
              have v0 : ∀ {α β : Type} (W : Nat → α → Option β) (b : α → β) (l : α), valD W b (fun _ => false) ops.size l = b l := fun W b l => by
                have key : ∀ n, valD W b (fun _ => false) n l = b l := fun n => by
                  induction n with
                  | zero => rfl
                  | succ n ih => simp only [valD]; exact ih
                exact key _
              refine ⟨fun t => ?_, fun o => ?_, R.sz, R.df, hinv, fun i e hi => by cases hi⟩
              · rw [v0]; exact (R.fr.rv t).mono hfit
              · rw [v0]
                show E.H.get o = st.H.get o
                rw [R.H]
          · cases h
        · cases h
      · cases h
    · cases h
  · cases h
theorem drRunP_ok {P : Program} {cfg : Cfg} {ic : Ic} (hic : IcOk P ic) {nt : Nat} {ds : List Deferred} {ops : Array Oper} {st st' : St} {p : Option AV} (h : drRunP P cfg ic nt ops st = some (p, st')) (N : Nm → Prop) {E : En} {a : Act} (R : SR nt ds E a st) (id : Nat) :
    (Code.region id ops true).wp P (Post nt ds N E (opFx p) st') a E.w := by
  unfold drRunP at h
  split at h
  · exact drRun_ok hic h N R id
  · simp only [Option.bind_eq_some_iff] at h
    obtain ⟨r, hr, h⟩ := h
    split at h
    · injection h with h
      injection h with h1 h2
      subst h1 h2
      exact drPan_ok hic hr N R id
    · exact drRun_ok hic h N R id
end Go.Rx
end
section
namespace Go.Rx
open Go Go.RowKit
set_option linter.unusedVariables false
set_option linter.unusedSimpArgs false

def keyOf : Code → Option Nat
  | .region id _ _ => some id
  | .seq a b => (keyOf a).orElse fun _ => keyOf b
  | .block _ b => keyOf b
  | .loop b => keyOf b
  | .scope b => keyOf b
  | _ => none


def seam1 : Nat → Nat
  | 0 => 0
  | _ + 1 => 1
theorem seam1_eq (v : Nat) : seam1 v = if v = 0 then 0 else 1 := by cases v <;> rfl
/-- The version that a row gets at a seam: 0 if it is 0. -/
def seamV (x : Option AObj) : Nat :=
  match x with
  | some (.arr _ _ v _) => seam1 v
  | some (.frz _ _ v _) => seam1 v
  | _ => 0
def pinsOk (g : Gm) (H : Hp) (pins : List Nm) : Bool := pins.all fun o => match H.get o with
  | some (.cells _) => decide (g.get o = some (o, 0))
  | some x => decide (g.get o = some (o, seamV (some x)) ∨ g.get o = some (o, 1))
  | none => true

/-- At a loop's head: what is dead is forgotten. -/
def prune (pins : List Nm) (keep : List Nat) (st : St) : Option St :=
  let g : Gm := (reach st.H 200 (pins ++ hdlL (keep.map st.fr.get)) []).map fun o => (o, (o, if pins.contains o then seamV (st.H.get o) else 0))
  if g.ok && pinsOk g st.H pins then some ⟨keep.map fun t => (t, ren g st.H (st.fr.get t)), renHp g st.H g⟩ else none

/-- Behind a loop: what is dead is forgotten, if that is asked for. -/
def exitP (pins : List Nm) (kx : Option (List Nat)) (r : Fx × St) : Option (Fx × St) := match kx with
  | none => some r
  | some keep => match r.1 with
    | .pan _ => some r
    | _ => (prune pins keep r.2).map fun s => (r.1, s)

def loopN (step : St → Option (Fx × St)) : Nat → St → Option (Fx × St)
  | 0, _ => none
  | n + 1, st => (step st).bind fun r => match r.1 with
    | .norm => loopN step n r.2
    | _ => some r

def runCode (P : Program) (cfg : Cfg) (ic : Ic) (nt f lf : Nat) (pins : List Nm) : Code → St → Option (Fx × St)
  | .skip => fun st => some (.norm, st)
  | .label _ => fun st => some (.norm, st)
  | .region _ ops d => fun st => (if d then (if cfg.panR then drRunP P cfg ic nt ops st else drRun P cfg ic nt ops st) else runOps P cfg ic nt ops (List.range ops.size) st).map fun r => (opFx r.1, r.2)
  | .seq a b => fun st => (runCode P cfg ic nt f lf pins a st).bind fun r => match r.1 with
    | .norm => runCode P cfg ic nt f lf pins b r.2
    | _ => some r
  | .cond c a b => fun st => match evA st.fr c with
    | .d (.bool t) => if t = true then runCode P cfg ic nt f lf pins a st else runCode P cfg ic nt f lf pins b st
    | _ => none
  | .block id b => fun st => (runCode P cfg ic nt f lf pins b st).map fun r => match r.1 with
    | .exit i => if i = id then (.norm, r.2) else r
    | _ => r
  | .loop b => fun st => (loopN (fun st => (prune pins (cfg.keep f ((keyOf b).getD 0)) st).bind (runCode P cfg ic nt f lf pins b)) lf st).bind (exitP pins (cfg.keepX f ((keyOf b).getD 0)))
  | .scope b => fun st => runCode P cfg ic nt f lf pins b st
  | .exit id => fun st => some (.exit id, st)
  | .ret => fun st => some (.ret, st)
  | _ => fun _ => none

def PinL (pins : List Nm) : Nm → Prop := fun o => o ∈ pins

theorem pinsOk_pin {g : Gm} {E : En} {pins : List Nm} (hg : g.ok = true) (h : pinsOk g E.H pins = true) : Pin (PinL pins) E (rehome g E) := fun o ho => by
  simp only [pinsOk, List.all_eq_true] at h
  have h := h o ho
  refine ⟨fun cs hx => ?_, fun x r hx hr => ?_⟩
  · rw [hx] at h
    simp only [decide_eq_true_eq] at h
    obtain ⟨h1, h2⟩ := (rehome_hom hg E).obj o _ _ h hx
    exact ⟨_, h1, h2⟩
  · rw [hx] at h
    have key : ∀ nv, g.get o = some (o, nv) → (nv = 0 → r.2.1 = 0) → ∃ x' r', (rehome g E).H.get o = some x' ∧ rowOf x' = some r' ∧ (r'.2.1 = 0 → r.2.1 = 0 ∧ r'.1 = r.1 ∧ (rehome g E).φ o = E.φ o ∧ r.2.2.length ≤ r'.2.2.length) := fun nv hgo hnv => by
      obtain ⟨h1, h2⟩ := (rehome_hom hg E).obj o _ _ hgo hx
      cases x with
      | cells cs => cases hr
      | arr e s v es => injection hr with hr; subst hr; exact ⟨_, _, h1, rfl, fun h0 => ⟨hnv h0, rfl, h2, Nat.le_refl _⟩⟩
      | frz e s v es => injection hr with hr; subst hr; exact ⟨_, _, h1, rfl, fun h0 => ⟨hnv h0, rfl, h2, Nat.le_refl _⟩⟩
    cases x with
    | cells cs => cases hr
    | arr e s v es =>
      injection hr with hr; subst hr
      simp only [decide_eq_true_eq] at h
      rcases h with h | h
      · exact key _ h (fun h0 => by simp only [seamV, seam1_eq] at h0; split at h0 <;> first | assumption | cases h0)
      · exact key _ h (fun h0 => by cases h0)
    | frz e s v es =>
      injection hr with hr; subst hr
      simp only [decide_eq_true_eq] at h
      rcases h with h | h
      · exact key _ h (fun h0 => by simp only [seamV, seam1_eq] at h0; split at h0 <;> first | assumption | cases h0)
      · exact key _ h (fun h0 => by cases h0)

theorem prune_ok {pins : List Nm} {keep : List Nat} {nt : Nat} {ds : List Deferred} {E : En} {a : Act} {st st' : St} (R : SR nt ds E a st) (h : prune pins keep st = some st') : ∃ E', E'.w = E.w ∧ SR nt ds E' a st' ∧ Step E E' ∧ Pin (PinL pins) E E' := by
  unfold prune at h
  simp only [] at h
  split at h
  · rename_i hh
    simp only [Bool.and_eq_true] at hh
    obtain ⟨hg, hp⟩ := hh
    injection h with h
    subst h
    rw [← R.H] at hg hp ⊢
    obtain ⟨I', S'⟩ := rehome_ok hg R.I
    refine ⟨rehome _ E, rfl, ⟨⟨fun t => ?_⟩, R.sz, R.df, rfl, I'⟩, S', pinsOk_pin hg hp⟩
    simp only [fr_keep]
    split
    · exact (R.fr.rv t).hom (rehome_hom hg E)
    · exact .undef _
  · cases h

theorem Post.mono {nt : Nat} {ds : List Deferred} {N : Nm → Prop} {E E' : En} {fx : Fx} {st : St} {e : Exit} {a : Act} {w : World} (I' : Inv E') (S : Step E E') (Pn : Pin N E E') (h : Post nt ds N E' fx st e a w) : Post nt ds N E fx st e a w := by
  obtain ⟨E'', h1, h2, h3, h4, h5⟩ := h
  exact ⟨E'', h1, h2, S.trans I' h3, Pn.trans h4, h5⟩

theorem exitP_ok {pins : List Nm} {kx : Option (List Nat)} {nt : Nat} {ds : List Deferred} {E : En} {fx fx' : Fx} {st st' : St} (h : exitP pins kx (fx, st) = some (fx', st')) {e : Exit} {a : Act} {w : World} (hp : Post nt ds (PinL pins) E fx st e a w) : Post nt ds (PinL pins) E fx' st' e a w := by
  unfold exitP at h
  cases kx with
  | none => injection h with h; injection h with h1 h2; subst h1 h2; exact hp
  | some keep =>
    simp only [] at h
    obtain ⟨E', rfl, R', S', P', M'⟩ := hp
    cases fx with
    | pan b => injection h with h; injection h with h1 h2; subst h1 h2; exact ⟨E', rfl, R', S', P', M'⟩
    | _ =>
      simp only [Option.map_eq_some_iff] at h
      obtain ⟨s, hs, h⟩ := h
      injection h with h1 h2; subst h1 h2
      obtain ⟨E2, w2, R2, S2, P2⟩ := prune_ok R' hs
      refine ⟨E2, w2, R2, S'.trans R'.I S2, P'.trans P2, ?_⟩
      cases e <;> first | exact M' | exact M'.elim

theorem loopN_ok {P : Program} {nt : Nat} {ds : List Deferred} {N : Nm → Prop} {c : Code} {step : St → Option (Fx × St)}
    (hstep : ∀ (E : En) (a : Act) (st : St) (fx : Fx) (st' : St), SR nt ds E a st → step st = some (fx, st') → c.wp P (Post nt ds N E fx st') a E.w) :
    ∀ (n : Nat) (E : En) (a : Act) (st : St) (fx : Fx) (st' : St), SR nt ds E a st → loopN step n st = some (fx, st') → ∀ Q, (∀ e a' w', (e = .normal → False) → Post nt ds N E fx st' e a' w' → Q e a' w') → Code.rounds P c Q n a E.w
  | 0, E, a, st, fx, st', R, h, Q, hQ => by cases h
  | n + 1, E, a, st, fx, st', R, h, Q, hQ => by
    simp only [loopN, Option.bind_eq_some_iff] at h
    obtain ⟨⟨fx1, s1⟩, h1, h⟩ := h
    rw [rounds_succ]
    refine wp_mono (hstep E a st fx1 s1 R h1) (fun e a' w' hp => ?_)
    obtain ⟨E', rfl, R', S', P', M'⟩ := hp
    cases fx1 with
    | norm =>
      cases e <;> try exact M'.elim
      simp only [Exit.then]
      exact loopN_ok hstep n E' a' s1 fx st' R' h Q (fun e a'' w'' hne hp => hQ e a'' w'' hne (hp.mono R'.I S' P'))
    | ret =>
      injection h with h; injection h with h2 h3; subst h2 h3
      cases e <;> try exact M'.elim
      exact hQ _ _ _ (by simp) ⟨E', rfl, R', S', P', M'⟩
    | exit i =>
      injection h with h; injection h with h2 h3; subst h2 h3
      cases e <;> try exact M'.elim
      exact hQ _ _ _ (by simp) ⟨E', rfl, R', S', P', M'⟩
    | pan b =>
      injection h with h; injection h with h2 h3; subst h2 h3
      cases e <;> try exact M'.elim
      exact hQ _ _ _ (by simp) ⟨E', rfl, R', S', P', M'⟩

theorem runCode_ok {P : Program} {cfg : Cfg} {ic : Ic} (hic : IcOk P ic) {nt f lf : Nat} {ds : List Deferred} {pins : List Nm} : ∀ (c : Code) (E : En) (a : Act) (st : St) (fx : Fx) (st' : St), SR nt ds E a st →
    runCode P cfg ic nt f lf pins c st = some (fx, st') → c.wp P (Post nt ds (PinL pins) E fx st') a E.w
  | .skip, E, a, st, fx, st', R, h => by
    injection h with h; injection h with h1 h2; subst h1 h2
    exact wp_skip ⟨E, rfl, R, .refl E, .refl _ E, trivial⟩
  | .label l, E, a, st, fx, st', R, h => by
    injection h with h; injection h with h1 h2; subst h1 h2
    exact wp_label ⟨E, rfl, R, .refl E, .refl _ E, trivial⟩
  | .exit id, E, a, st, fx, st', R, h => by
    injection h with h; injection h with h1 h2; subst h1 h2
    exact wp_exit ⟨E, rfl, R, .refl E, .refl _ E, rfl⟩
  | .ret, E, a, st, fx, st', R, h => by
    injection h with h; injection h with h1 h2; subst h1 h2
    exact wp_ret ⟨E, rfl, R, .refl E, .refl _ E, trivial⟩
  | .region id ops d, E, a, st, fx, st', R, h => by
    simp only [runCode, Option.map_eq_some_iff] at h
    obtain ⟨⟨p, s⟩, hp, h⟩ := h
    injection h with h1 h2
    subst h1 h2
    cases d with
    | false => exact wp_region (runOps_ok hic (PinL pins) _ E a st s p R (by simpa using hp) _ (fun e a' w' h => h))
    | true =>
      simp only [if_true] at hp
      split at hp
      · exact drRunP_ok hic hp (PinL pins) R id
      · exact drRun_ok hic hp (PinL pins) R id
  | .seq x y, E, a, st, fx, st', R, h => by
    simp only [runCode, Option.bind_eq_some_iff] at h
    obtain ⟨⟨fx1, s1⟩, h1, h⟩ := h
    refine wp_seq (wp_mono (runCode_ok hic x E a st fx1 s1 R h1) (fun e a' w' hp => ?_))
    obtain ⟨E', rfl, R', S', P', M'⟩ := hp
    cases fx1 with
    | norm =>
      cases e <;> try exact M'.elim
      simp only [Exit.then]
      exact wp_mono (runCode_ok hic y E' a' s1 fx st' R' h) (fun e a'' w'' hp => hp.mono R'.I S' P')
    | ret =>
      injection h with h; injection h with h2 h3; subst h2 h3
      cases e <;> try exact M'.elim
      exact ⟨E', rfl, R', S', P', M'⟩
    | exit i =>
      injection h with h; injection h with h2 h3; subst h2 h3
      cases e <;> try exact M'.elim
      exact ⟨E', rfl, R', S', P', M'⟩
    | pan b =>
      injection h with h; injection h with h2 h3; subst h2 h3
      cases e <;> try exact M'.elim
      exact ⟨E', rfl, R', S', P', M'⟩
  | .cond c x y, E, a, st, fx, st', R, h => by
    simp only [runCode] at h
    split at h
    · rename_i t hc
      have hv := R.fr.eval c
      rw [hc] at hv
      refine wp_cond (t := t) (rep_bool (rv_d hv)) ?_
      cases t with
      | true => exact runCode_ok hic x E a st fx st' R (by simpa using h)
      | false => exact runCode_ok hic y E a st fx st' R (by simpa using h)
    · cases h
  | .block id b, E, a, st, fx, st', R, h => by
    simp only [runCode, Option.map_eq_some_iff] at h
    obtain ⟨⟨fx1, s1⟩, h1, h⟩ := h
    refine wp_block (wp_mono (runCode_ok hic b E a st fx1 s1 R h1) (fun e a' w' hp => ?_))
    obtain ⟨E', rfl, R', S', P', M'⟩ := hp
    cases fx1 with
    | norm =>
      injection h with h2 h3; subst h2 h3
      cases e <;> try exact M'.elim
      exact ⟨E', rfl, R', S', P', M'⟩
    | ret =>
      injection h with h2 h3; subst h2 h3
      cases e <;> try exact M'.elim
      exact ⟨E', rfl, R', S', P', M'⟩
    | pan b =>
      injection h with h2 h3; subst h2 h3
      cases e <;> try exact M'.elim
      exact ⟨E', rfl, R', S', P', M'⟩
    | exit i =>
      cases e <;> try exact M'.elim
      rename_i i'
      have e1 : i' = i := M'
      subst e1
      simp only [Exit.inBlock]
      simp only [] at h
      split at h
      · rename_i hi
        injection h with h2 h3; subst h2 h3
        rw [if_pos hi]
        exact ⟨E', rfl, R', S', P', trivial⟩
      · rename_i hi
        injection h with h2 h3; subst h2 h3
        rw [if_neg hi]
        exact ⟨E', rfl, R', S', P', rfl⟩
  | .loop b, E, a, st, fx, st', R, h => by
    simp only [runCode, Option.bind_eq_some_iff] at h
    obtain ⟨⟨fx0, st0⟩, h, hx⟩ := h
    refine wp_loop_rounds lf (loopN_ok (N := PinL pins) (fun E1 a1 s1 fx1 s1' R1 h1 => ?_) lf E a st fx0 st0 R h _ (fun e a' w' _ hp => exitP_ok hx hp))
    simp only [Option.bind_eq_some_iff] at h1
    obtain ⟨s2, h2, h3⟩ := h1
    obtain ⟨E2, w2, R2, S2, P2⟩ := prune_ok R1 h2
    rw [← w2]
    exact wp_mono (runCode_ok hic b E2 a1 s2 fx1 s1' R2 h3) (fun e a' w' hp => hp.mono R2.I S2 P2)
  | .scope b, E, a, st, fx, st', R, h => by
    simp only [runCode] at h
    refine wp_scope_straight (wp_mono (runCode_ok hic b E a st fx st' R h) (fun e a' w' hp => ?_))
    obtain ⟨E', rfl, R', S', P', M'⟩ := hp
    cases e <;> first
      | exact ⟨E', rfl, R', S', P', M'⟩
      | (cases fx <;> exact M'.elim)
  | .goto l, E, a, st, fx, st', R, h => by cases h
  | .refuse w, E, a, st, fx, st', R, h => by cases h
  | .rangeFunc _ _ _ _, E, a, st, fx, st', R, h => by cases h

/-- The results. -/
def resV (P : Program) (st : St) : ResultVar → Option AV
  | .tmp t => some (st.fr.get t)
  | .cell t ty => aLoad P st.H ty (st.fr.get t)
def resL (P : Program) (st : St) : List ResultVar → Option (List AV)
  | [] => some []
  | r :: l => (resV P st r).bind fun a => (resL P st l).map fun as => a :: as
def resA (P : Program) (fn : Func) (st : St) : Option AV := (resL P st fn.results.toList).map fun as => match as with
  | [a] => a
  | as => .tuple as

def resSem (tmps : Array Value) : ResultVar → Sem Value
  | .tmp t => pure (tmps.getD t undef)
  | .cell c t => do loadVar t (← asAddr (tmps.getD c undef))
theorem resL_ok {P : Program} {nt : Nat} {ds : List Deferred} {E : En} {a : Act} {st : St} (R : SR nt ds E a st) : ∀ (l : List ResultVar) (as : List AV), resL P st l = some as →
    ∃ vs : List Value, (l.mapM (resSem a.tmps)).run P E.w = .ok vs E.w ∧ ArgsOk E vs as
  | [], as, h => by injection h with h; subst h; exact ⟨[], by simp, rfl, fun i v a hv => by simp at hv⟩
  | r :: l, as, h => by
    simp only [resL, Option.bind_eq_some_iff, Option.map_eq_some_iff] at h
    obtain ⟨b, hb, bs, hbs, rfl⟩ := h
    obtain ⟨vs, h1, h2, h3⟩ := resL_ok R l bs hbs
    have one : ∃ v, (resSem a.tmps r).run P E.w = .ok v E.w ∧ RV E v b := by
      cases r with
      | tmp t => injection hb with hb; subst hb; exact ⟨_, rfl, R.fr.rv t⟩
      | cell c t =>
        simp only [resV] at hb
        rw [← R.H] at hb
        obtain ⟨v, hv, hr⟩ := load_ok (P := P) R.I (R.fr.rv c) hb
        refine ⟨v, ?_, hr⟩
        have hp : ∃ ad, a.tmps.getD c undef = .pointer (some ad) := by
          unfold aLoad at hb
          simp only [Option.bind_eq_some_iff] at hb
          obtain ⟨_, _, _, _, ⟨cs, off⟩, hrd, _⟩ := hb
          obtain ⟨bb, oo, e, _⟩ := rdAt_ok R.I (R.fr.rv c) hrd
          exact ⟨_, e⟩
        obtain ⟨ad, hp⟩ := hp
        rw [hp] at hv
        simp only [resSem, hp]
        simpa [Instr.loadAt, Instr.sureAddr, asAddr] using hv
    obtain ⟨v, hv, hr'⟩ := one
    refine ⟨v :: vs, ?_, by simp [h2], fun i w c hw hc => ?_⟩
    · simp only [List.mapM_cons, Sem.run_bind, hv, Result.andThen_ok, h1, Sem.run_pure]
    · cases i with
      | zero => simp at hw hc; subst hw hc; exact hr'
      | succ i => exact h3 i w c (by simpa using hw) (by simpa using hc)

theorem resA_ok {P : Program} {nt : Nat} {ds : List Deferred} {E : En} {a : Act} {st : St} (R : SR nt ds E a st) {fn : Func} {r : AV} (h : resA P fn st = some r) : ∃ v, (results fn a.tmps).run P E.w = .ok v E.w ∧ RV E v r := by
  unfold resA at h
  rw [Option.map_eq_some_iff] at h
  obtain ⟨as, has, h⟩ := h
  obtain ⟨vs, h1, h2, h3⟩ := resL_ok (P := P) R fn.results.toList as has
  have hm : (fn.results.mapM (resSem a.tmps)).run P E.w = .ok vs.toArray E.w := by
    rw [Array.mapM_eq_mapM_toList]
    simp only [Sem.run_map, h1, Result.andThen_ok]
  have hrun : (results fn a.tmps).run P E.w = .ok (if h : vs.toArray.size = 1 then vs.toArray[0] else .tuple vs.toArray) E.w := by
    have e : results fn a.tmps = (do let vs ← fn.results.mapM (resSem a.tmps); pure (if h : vs.size = 1 then vs[0] else .tuple vs)) := by
      unfold results
      congr 1
    rw [e, Sem.run_bind, hm, Result.andThen_ok]
    rfl
  refine ⟨_, hrun, ?_⟩
  clear hrun hm h1 has
  cases as with
  | nil =>
    subst h
    obtain rfl : vs = [] := List.eq_nil_of_length_eq_zero h2
    exact .tuple [] [] rfl h3
  | cons x as =>
    cases as with
    | nil =>
      subst h
      cases vs with
      | nil => simp at h2
      | cons v vs =>
        obtain rfl : vs = [] := List.eq_nil_of_length_eq_zero (by simpa using h2)
        exact h3 0 v x rfl rfl
    | cons y l =>
      subst h
      rw [dif_neg (by simp at h2 ⊢; omega)]
      exact .tuple vs _ h2 h3

/-- A result is handed back: as plain data, but for rows that may be taken over. -/
def keepR (own : Bool) : AV → Bool
  | .own .. => own
  | .nilsl => own
  | _ => false
def sealR1 (own : Bool) (H : Hp) (a : AV) : AV × Hp := if keepR own a then (a, H) else sealV H a
def sealRs (own : Bool) : Hp → List AV → List AV × Hp
  | H, [] => ([], H)
  | H, a :: r => ((sealR1 own H a).1 :: (sealRs own (sealR1 own H a).2 r).1, (sealRs own (sealR1 own H a).2 r).2)
def sealR (own : Bool) (H : Hp) : AV → AV × Hp
  | .tuple vs => (.tuple (sealRs own H vs).1, (sealRs own H vs).2)
  | .iface t a => (.iface t (sealV H a).1, (sealV H a).2)
  | a => sealR1 own H a

theorem sealR1_ok (own : Bool) {E : En} (I : Inv E) {v : Value} {a : AV} (h : RV E v a) : ∃ E', E'.w = E.w ∧ E'.H = (sealR1 own E.H a).2 ∧ Inv E' ∧ Step E E' ∧ Fit E E' ∧ RV E' v (sealR1 own E.H a).1 := by
  unfold sealR1
  split
  · exact ⟨E, rfl, rfl, I, .refl E, .refl E, h⟩
  · exact sealV_ok I h
theorem sealRs_ok (own : Bool) {E : En} (I : Inv E) {vs : List Value} {as : List AV} (h : ArgsOk E vs as) : ∃ E', E'.w = E.w ∧ E'.H = (sealRs own E.H as).2 ∧ Inv E' ∧ Step E E' ∧ Fit E E' ∧ ArgsOk E' vs (sealRs own E.H as).1 := by
  induction as generalizing E vs with
  | nil => exact ⟨E, rfl, rfl, I, .refl E, .refl E, h⟩
  | cons a r ih =>
    obtain ⟨hl, hr⟩ := h
    cases vs with
    | nil => simp at hl
    | cons v vs =>
      obtain ⟨E1, a1, a2, a3, a4, a5, a6⟩ := sealR1_ok own I (hr 0 v a rfl rfl)
      obtain ⟨E2, b1, b2, b3, b4, b5, b6⟩ := ih a3 (vs := vs) ⟨by simpa using hl, fun i v a hv ha => (hr (i + 1) v a hv ha).mono a5⟩
      simp only [sealRs]
      rw [a2] at b2 b6
      refine ⟨E2, b1.trans a1, b2, b3, a4.trans a3 b4, a5.trans b5, by simp [b6.1], fun i w b hw hb => ?_⟩
      cases i with
      | zero => simp at hw hb; subst hw hb; exact a6.mono b5
      | succ i => exact b6.2 i w b (by simpa using hw) (by simpa using hb)
theorem sealR_ok (own : Bool) {E : En} (I : Inv E) {v : Value} {a : AV} (h : RV E v a) : ∃ E', E'.w = E.w ∧ E'.H = (sealR own E.H a).2 ∧ Inv E' ∧ Step E E' ∧ Fit E E' ∧ RV E' v (sealR own E.H a).1 := by
  cases a <;> first
    | exact sealR1_ok own I h
    | skip
  · cases h with
    | tuple cs vs hl hr =>
    obtain ⟨E', a1, a2, a3, a4, a5, a6⟩ := sealRs_ok own I ⟨hl, hr⟩
    exact ⟨E', a1, a2, a3, a4, a5, .tuple cs _ a6.1 a6.2⟩
  · cases h with
    | iface t v a hr =>
    obtain ⟨E', a1, a2, a3, a4, a5, a6⟩ := sealV_ok I hr
    exact ⟨E', a1, a2, a3, a4, a5, .iface _ _ _ a6⟩

def comps : AV → List AV
  | .tuple vs => vs
  | a => [a]
def verR (H : Hp) (pins : List Nm) (a : AV) (o : Nm) : Nat :=
  match H.get o with
  | some (.cells _) => 0
  | x => if pins.contains o then (if (hdlV a).contains o then 1 else seamV x) else 0
def gRes (H : Hp) (pins : List Nm) (a : AV) : Gm := (gather H 200 (pins.map (fun o => (o, o)) ++ hdArgs .res 0 (comps a)) []).map fun x => (x.1, (x.2, verR H pins a x.1))

def finR (pins : List Nm) (own : Bool) (H : Hp) (a : AV) : Option (AV × Hp) :=
  let s := sealR own H a
  let g := gRes s.2 pins s.1
  if g.ok && pinsOk g s.2 pins then some (ren g s.2 s.1, renHp g s.2 g) else none

theorem finR_ok {pins : List Nm} {own : Bool} {E : En} (I : Inv E) {v : Value} {a r : AV} {H' : Hp} (h : RV E v a) (hf : finR pins own E.H a = some (r, H')) : ∃ E', E'.w = E.w ∧ E'.H = H' ∧ Inv E' ∧ Step E E' ∧ Pin (PinL pins) E E' ∧ RV E' v r := by
  unfold finR at hf
  simp only [] at hf
  obtain ⟨E1, a1, a2, a3, a4, a5, a6⟩ := sealR_ok own I h
  rw [← a2] at hf
  split at hf
  · rename_i hh
    simp only [Bool.and_eq_true] at hh
    obtain ⟨hg, hp⟩ := hh
    injection hf with hf
    injection hf with h1 h2
    subst h1 h2
    obtain ⟨I', S'⟩ := rehome_ok hg a3
    exact ⟨rehome _ E1, a1, rfl, I', a4.trans a3 S', (a5.pin _).trans (pinsOk_pin hg hp), a6.hom (rehome_hom hg E1)⟩
  · cases hf

def finish (P : Program) (own : Bool) (fn : Func) (pins : List Nm) (r : Fx × St) : Option (Res × Hp) :=
  match r.1 with
  | .norm => (resA P fn r.2).bind fun a => (finR pins own r.2.H a).map fun x => (.ret x.1, x.2)
  | .ret => (resA P fn r.2).bind fun a => (finR pins own r.2.H a).map fun x => (.ret x.1, x.2)
  | .pan a => (finR pins own r.2.H a).map fun x => (.pan x.1, x.2)
  | .exit _ => none

def frOf : Nat → List AV → Fr
  | _, [] => []
  | i, a :: r => (i, a) :: frOf (i + 1) r
theorem frOf_get : ∀ (l : List AV) (i t : Nat), Fr.get (frOf i l) t = if i ≤ t then (l[t - i]?).getD .undef else .undef
  | [], i, t => by simp [frOf, Fr.get]
  | a :: l, i, t => by
    simp only [frOf, Fr.get_cons, frOf_get l (i + 1) t]
    by_cases h : i = t
    · subst h; simp
    · rw [if_neg h]
      by_cases h2 : i ≤ t
      · rw [if_pos h2, if_pos (by omega), show t - i = (t - (i + 1)) + 1 by omega, List.getElem?_cons_succ]
      · rw [if_neg h2, if_neg (by omega)]

/-- A function, called with so much fuel. -/
def icall (P : Program) (cfg : Cfg) : Nat → Ic
  | 0 => fun _ _ _ => none
  | k + 1 => fun f args H => match cfg.ext f with
    | some g => g args H
    | none => (P.funcs[f]?).bind fun fn => fn.body.bind fun c => if args.length ≤ fn.ntmps then
      (runCode P cfg (icall P cfg k) fn.ntmps f k (H.map (·.1)) c ⟨frOf 0 args, H⟩).bind (finish P (cfg.ownR f) fn (H.map (·.1)))
    else none

theorem Hp.get_name : ∀ {H : Hp} {o : Nm} {x : AObj}, H.get o = some x → o ∈ H.map (·.1)
  | [], _, _, h => by cases h
  | (p, y) :: r, o, x, h => by
    simp only [Hp.get_cons] at h
    split at h
    · rename_i hp; subst hp; simp
    · simp only [List.map_cons]; exact List.mem_cons_of_mem _ (Hp.get_name h)

def ExtOk (P : Program) (cfg : Cfg) : Prop := ∀ f g, cfg.ext f = some g → FnOk P f g

theorem icall_ok {P : Program} {cfg : Cfg} (hext : ExtOk P cfg) : ∀ k, IcOk P (icall P cfg k)
  | 0 => fun f args H res H' h => by cases h
  | k + 1 => fun f args H res H' h E vs I hH hargs => by
    subst hH
    have ih := icall_ok hext k
    simp only [icall] at h
    split at h
    · rename_i g hg
      exact hext f g hg args _ res H' h E vs I rfl hargs
    simp only [Option.bind_eq_some_iff] at h
    obtain ⟨fn, hfn, c, hc, h⟩ := h
    split at h
    · rename_i hle
      simp only [Option.bind_eq_some_iff] at h
      obtain ⟨⟨fx, st'⟩, hrun, hfin⟩ := h
      have hl := hargs.1
      have R : SR fn.ntmps [] E { tmps := vs.toArray ++ Array.replicate (fn.ntmps - vs.toArray.size) undef, defers := [] } ⟨frOf 0 args, E.H⟩ := by
        refine ⟨⟨fun t => ?_⟩, by simp; omega, rfl, rfl, I⟩
        simp only [frOf_get, Nat.zero_le, if_true, Nat.sub_zero]
        by_cases ht : t < args.length
        · have hv : vs[t]? = some vs[t] := List.getElem?_eq_getElem (by omega)
          have ha : args[t]? = some args[t] := List.getElem?_eq_getElem ht
          rw [ha]
          simp only [Option.getD_some]
          rw [Array.getD_eq_getD_getElem?, Array.getElem?_append_left (by simp; omega)]
          simp only [List.getElem?_toArray, hv, Option.getD_some]
          exact hargs.2 t _ _ hv ha
        · rw [List.getElem?_eq_none (by omega)]
          exact .undef _
      refine calls_of_wp hfn hc (wp_mono (runCode_ok ih c E _ _ fx st' R hrun) (fun e a' w' hp => ?_))
      obtain ⟨E', rfl, R', S', P', M'⟩ := hp
      have allN : ∀ E2, Pin (PinL (E.H.map (·.1))) E E2 → Pin (fun _ => True) E E2 := fun E2 h o _ => ⟨fun cs hg => (h o (Hp.get_name hg)).1 cs hg, fun x r hg => (h o (Hp.get_name hg)).2 x r hg⟩
      have done : ∀ (r : AV) (v : Value) (res' : AV) (H2 : Hp), RV E' v r → finR (E.H.map (·.1)) (cfg.ownR f) st'.H r = some (res', H2) → ∃ E2, E2.w = E'.w ∧ Inv E2 ∧ E2.H = H2 ∧ Step E E2 ∧ RV E2 v res' ∧ Pin (fun _ => True) E E2 := fun r v res' H2 hr hf => by
        rw [← R'.H] at hf
        obtain ⟨E2, b1, b2, b3, b4, b5, b6⟩ := finR_ok R'.I hr hf
        exact ⟨E2, b1, b3, b2, S'.trans R'.I b4, b6, allN E2 (P'.trans b5)⟩
      have retd : ∀ r, resA P fn st' = some r → ∀ x, finR (E.H.map (·.1)) (cfg.ownR f) st'.H r = some x → (Res.ret x.1, x.2) = (res, H') →
          a'.defers = [] ∧ ∃ v, (results fn a'.tmps).run P E'.w = .ok v E'.w ∧ ∃ E2, E2.w = E'.w ∧ Inv E2 ∧ E2.H = H' ∧ Step E E2 ∧ ROk E2 (.returned v) res ∧ Pin (fun _ => True) E E2 := fun r hr x hx he => by
        injection he with h1 h2
        subst h1 h2
        obtain ⟨v, hv, hvr⟩ := resA_ok R' hr
        obtain ⟨E2, b1, b2, b3, b4, b5, b6⟩ := done r v x.1 x.2 hvr hx
        exact ⟨R'.df, v, hv, E2, b1, b2, b3, b4, b5, b6⟩
      cases fx with
      | exit i => cases hfin
      | norm =>
        cases e <;> try exact M'.elim
        simp only [finish, Option.bind_eq_some_iff, Option.map_eq_some_iff] at hfin
        obtain ⟨r, hr, x, hx, he⟩ := hfin
        exact retd r hr x hx he
      | ret =>
        cases e <;> try exact M'.elim
        simp only [finish, Option.bind_eq_some_iff, Option.map_eq_some_iff] at hfin
        obtain ⟨r, hr, x, hx, he⟩ := hfin
        exact retd r hr x hx he
      | pan b =>
        cases e <;> try exact M'.elim
        obtain ⟨v, rfl, hv⟩ := M'
        simp only [finish, Option.map_eq_some_iff] at hfin
        obtain ⟨x, hx, he⟩ := hfin
        injection he with h1 h2
        subst h1 h2
        obtain ⟨E2, b1, b2, b3, b4, b5, b6⟩ := done b v x.1 x.2 hv hx
        exact ⟨R'.df, E2, b1, b2, b3, b4, ⟨v, rfl, b5⟩, b6⟩
    · cases h
end Go.Rx
end
