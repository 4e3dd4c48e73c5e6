/- Rx, part 12: one operation. -/
import Derived.Test.YtghiaobecppbeaaRxK
import Derived.Laws.Build
namespace Go.Rx
open Go Go.RowKit
set_option linter.unusedVariables false
set_option linter.unusedSimpArgs false

def isIface (P : Program) (t : TypeId) : Bool :=
  match P.underlying t with
  | some (.interface _) => true
  | none => true
  | _ => false

/-- The least, or the greatest, of two. -/
def aMin2 (m : Bool) : AV → AV → Option AV
  | .d (.int k a), .d (.int _ b) => some (.d (.int k (if (if m = true then decide (b > a) else decide (b < a)) = true then b else a)))
  | _, _ => none
theorem min2_ok {P : Program} {E : En} {ts : Array TypeId} {ty : TypeId} {u v : Value} {x y r : AV} (hx : RV E u x) (hy : RV E v y) (h : aMin2 false x y = some r) : OpQ P E (Builtin.min_ ts ty #[u, v]) r := by
  unfold aMin2 at h
  split at h
  · rename_i k a k' b
    injection h with h; subst h
    have h1 := rep_int (rv_d hx)
    have h2 := rep_int (rv_d hy)
    subst h1 h2
    refine ⟨.int k (if b < a then b else a), by simp [Builtin.min_, Builtin.min2], ?_⟩
    have := RV.d (E := E) _ _ (Rep.int k (if b < a then b else a))
    simpa using this
  · cases h
theorem max2_ok {P : Program} {E : En} {ts : Array TypeId} {ty : TypeId} {u v : Value} {x y r : AV} (hx : RV E u x) (hy : RV E v y) (h : aMin2 true x y = some r) : OpQ P E (Builtin.max_ ts ty #[u, v]) r := by
  unfold aMin2 at h
  split at h
  · rename_i k a k' b
    injection h with h; subst h
    have h1 := rep_int (rv_d hx)
    have h2 := rep_int (rv_d hy)
    subst h1 h2
    refine ⟨.int k (if b > a then b else a), by simp [Builtin.max_, Builtin.max2], ?_⟩
    have := RV.d (E := E) _ _ (Rep.int k (if b > a then b else a))
    simpa using this
  · cases h

/-- One operation that calls no function of the program's. -/
def aop (P : Program) (dst : Nat) (ρ : Operand → AV) (H : Hp) : Op → Option (AV × Hp)
  | .move x => some (ρ x, H)
  | .assign x => some (ρ x, H)
  | .pick c a b => match ρ c with
    | .d (.bool t) => some (if t = true then ρ a else ρ b, H)
    | _ => none
  | .alloc e => aAlloc P H dst e
  | .box _ x => aBox H dst (ρ x)
  | .build t ps => (aBuild P t (ps.toList.map fun p => (p.1, ρ p.2))).map fun r => (r, H)
  | .buildSlice t n ps => aBuildSlice P H dst t n (ps.toList.map fun p => (p.1, ρ p.2))
  | .load t a => (aLoad P H t (ρ a)).map fun r => (r, H)
  | .store t a x => (aStore P H t (ρ a) (ρ x)).map fun H' => (.undef, H')
  | .nilCheck x => (aNilCheck (ρ x)).map fun r => (r, H)
  | .binOp op t x y _ => (aBin P op t (ρ x) (ρ y)).map fun r => (r, H)
  | .unOp op _ x => (aUn op (ρ x)).map fun r => (r, H)
  | .convert s d x => (aConvert P H s d (ρ x)).map fun r => (r, H)
  | .makeSlice t l c => aMakeSlice P H dst t (ρ l) (ρ c)
  | .slice t x lo hi mx => aSlice P H t (ρ x) (lo.map ρ) (hi.map ρ) (mx.map ρ)
  | .fieldAddr t x f => (aFieldAddr P H t (ρ x) f).map fun r => (r, H)
  | .field t x f => (aField P t (ρ x) f).map fun r => (r, H)
  | .indexAddr t x i => (aIndexAddr P H t (ρ x) (ρ i)).map fun r => (r, H)
  | .index t x i => (aIndex P t (ρ x) (ρ i)).map fun r => (r, H)
  | .extract x i => (aExtract (ρ x) i).map fun r => (r, H)
  | .makeFunc (.func f) first caps => if first.size = 0 then some (.fn f (caps.toList.map ρ), H) else none
  | .makeInterface t x => if isIface P t then none else some (.iface t (ρ x), H)
  | .call c => match c.callee, c.args.toList, c.argTypes.toList with
    | .builtin .len, [x], [t] => (aLen P H t (ρ x)).map fun r => (r, H)
    | .builtin .append, [s, x], [t, u] => aAppend P H dst t u (ρ s) (ρ x)
    | .builtin .min, [x, y], [t, u] => (aMin2 false (ρ x) (ρ y)).map fun r => (r, H)
    | .builtin .max, [x, y], [t, u] => (aMin2 true (ρ x) (ρ y)).map fun r => (r, H)
    | _, _, _ => none
  | _ => none

theorem opq_map {P : Program} {E : En} (I : Inv E) {s : Sem Value} {o : Option AV} {r : AV} {H' : Hp} (h : o.map (fun r => (r, E.H)) = some (r, H')) (hq : ∀ r, o = some r → OpQ P E s r) : OpS P E (do pure (.value (← s))) r H' := by
  rw [Option.map_eq_some_iff] at h
  obtain ⟨r', hr, h⟩ := h
  injection h with h1 h2
  subst h1 h2
  exact OpQ.ops I (hq r' hr)

theorem parts_ok {E : En} {a : Act} {fr : Fr} (F : FrOk E a fr) (ps : Array (Nat × Operand)) : ∀ (k i j : Nat) (v : Value) (b : AV), (ps.toList.map fun p => (p.1, a.eval p.2))[k]? = some (i, v) → (ps.toList.map fun p => (p.1, evA fr p.2))[k]? = some (j, b) → i = j ∧ RV E v b := by
  intro k i j v b hv hb
  rw [List.getElem?_map, Option.map_eq_some_iff] at hv hb
  obtain ⟨p, hp, hv⟩ := hv
  obtain ⟨q, hq, hb⟩ := hb
  rw [hp] at hq
  injection hq with hq
  subst hq
  injection hv with h1 h2
  injection hb with h3 h4
  subst h1 h2 h3 h4
  exact ⟨rfl, F.eval _⟩

theorem parts_arr (ps : Array (Nat × Operand)) (ρ : Operand → Value) : ps.map (fun x => match x with | (i, y) => (i, ρ y)) = (ps.toList.map fun p => (p.1, ρ p.2)).toArray := by
  apply Array.ext'; simp

theorem aop_ok {P : Program} {E : En} (I : Inv E) {a : Act} {fr : Fr} (F : FrOk E a fr) {dst : Nat} {o : Oper} {r : AV} {H' : Hp} (h : aop P dst (evA fr) E.H o.op = some (r, H')) : OpS P E (execOp a.eval o) r H' := by
  have ev := fun x => F.eval x
  have val : ∀ (x : Operand), o.op = .move x ∨ o.op = .assign x → OpS P E (execOp a.eval o) (evA fr x) E.H := fun x hx => by
    refine ⟨a.eval x, E, .value _, ?_, .inl rfl, ev x, I, rfl, .refl E, .refl E⟩
    rcases hx with hx | hx <;> simp [execOp, hx]
  unfold aop at h
  split at h
  · rename_i x ho
    injection h with h; injection h with h1 h2; subst h1 h2
    exact val x (.inl ho)
  · rename_i x ho
    injection h with h; injection h with h1 h2; subst h1 h2
    exact val x (.inr ho)
  · rename_i c x y ho
    split at h
    · rename_i t hc
      injection h with h; injection h with h1 h2; subst h1 h2
      have hcv := ev c
      rw [hc] at hcv
      have hcb := rep_bool (rv_d hcv)
      refine ⟨if t = true then a.eval x else a.eval y, E, .value _, ?_, .inl rfl, ?_, I, rfl, .refl E, .refl E⟩
      · simp [execOp, ho, hcb, asBool]
      · cases t
        · exact ev y
        · exact ev x
    · cases h
  · rename_i e ho
    have := alloc_ok (P := P) I h
    simpa [execOp, ho] using this
  · rename_i e x ho
    have := box_ok (P := P) (e := e) I (ev x) h
    simpa [execOp, ho] using this
  · rename_i t ps ho
    have := opq_map (P := P) I h (fun r hr => build_ok (P := P) (vparts := ps.toList.map fun p => (p.1, a.eval p.2)) (by simp) (parts_ok F ps) hr)
    unfold execOp
    simp only [ho, parts_arr]
    exact this
  · rename_i t n ps ho
    have := buildSlice_ok (P := P) I (vparts := ps.toList.map fun p => (p.1, a.eval p.2)) (by simp) (parts_ok F ps) h
    unfold execOp
    simp only [ho, parts_arr]
    exact this
  · rename_i t x ho
    have := opq_map (P := P) I h (fun r hr => load_ok I (ev x) hr)
    simpa [execOp, ho] using this
  · rename_i t x y ho
    rw [Option.map_eq_some_iff] at h
    obtain ⟨H1, h, h1⟩ := h
    injection h1 with h1 h2; subst h1 h2
    have := store_ok (P := P) I (ev x) (ev y) h
    simpa [execOp, ho] using this
  · rename_i x ho
    rw [Option.map_eq_some_iff] at h
    obtain ⟨r', hr, h⟩ := h
    injection h with h1 h2; subst h1 h2
    exact nilCheck_ok I ho (ev x) hr
  · rename_i op t x y yt ho
    have := opq_map (P := P) I h (fun r hr => bin_ok (P := P) (ox := x) (oy := y) (ev x) (ev y) hr)
    simpa [execOp, ho] using this
  · rename_i op t x ho
    have := opq_map (P := P) I h (fun r hr => un_ok (P := P) (ev x) hr)
    simpa [execOp, ho] using this
  · rename_i s d x ho
    rw [Option.map_eq_some_iff] at h
    obtain ⟨r', hr, h⟩ := h
    injection h with h1 h2; subst h1 h2
    have := convert_ok (P := P) I (ev x) hr
    simpa [execOp, ho] using this
  · rename_i t x y ho
    have := makeSlice_ok (P := P) I (ev x) (ev y) h
    simpa [execOp, ho] using this
  · rename_i t x lo hi mx ho
    have om : ∀ (q : Option Operand), (q.map a.eval).isSome = (q.map (evA fr)).isSome ∧ ∀ u b, q.map a.eval = some u → q.map (evA fr) = some b → RV E u b := fun q => by
      cases q with
      | none => exact ⟨rfl, fun u b h => by cases h⟩
      | some y => exact ⟨rfl, fun u b h1 h2 => by injection h1 with h1; injection h2 with h2; subst h1 h2; exact ev y⟩
    have := slice_ok (P := P) I (ev x) (om lo).1 (om lo).2 (om hi).1 (om hi).2 (om mx).1 (om mx).2 h
    simpa [execOp, ho] using this
  · rename_i t x f ho
    have := opq_map (P := P) I h (fun r hr => fieldAddr_ok (P := P) (ev x) hr)
    simpa [execOp, ho] using this
  · rename_i t x f ho
    have := opq_map (P := P) I h (fun r hr => field_ok (P := P) (ev x) hr)
    simpa [execOp, ho] using this
  · rename_i t x i ho
    have := opq_map (P := P) I h (fun r hr => indexAddr_ok (P := P) I (ev x) (ev i) hr)
    simpa [execOp, ho] using this
  · rename_i t x i ho
    have := opq_map (P := P) I h (fun r hr => index_ok (P := P) (ev x) (ev i) hr)
    simpa [execOp, ho] using this
  · rename_i x i ho
    have := opq_map (P := P) I h (fun r hr => extract_ok (P := P) (ev x) hr)
    simpa [execOp, ho] using this
  · rename_i f first caps ho
    split at h
    · rename_i hf
      injection h with h; injection h with h1 h2; subst h1 h2
      have hf' : first = #[] := Array.eq_empty_of_size_eq_zero hf
      subst hf'
      have e1 : caps.map a.eval = (caps.toList.map a.eval).toArray := by apply Array.ext'; simp
      refine ⟨.func (.func f) #[] (caps.toList.map a.eval).toArray, E, .value _, ?_, .inl rfl, .fn f _ _ (by simp) (fun i v b hv hb => ?_), I, rfl, .refl E, .refl E⟩
      · unfold execOp
        simp only [ho, Instr.makeFunc, e1, Array.map_empty]
        rfl
      · rw [List.getElem?_map, Option.map_eq_some_iff] at hv hb
        obtain ⟨p, hp, rfl⟩ := hv
        obtain ⟨q, hq, rfl⟩ := hb
        rw [hp] at hq; injection hq with hq; subst hq
        exact ev p
    · cases h
  · rename_i t x ho
    split at h
    · cases h
    · rename_i hi
      injection h with h; injection h with h1 h2; subst h1 h2
      refine ⟨.iface t (a.eval x), E, .value _, ?_, .inl rfl, .iface _ _ _ (ev x), I, rfl, .refl E, .refl E⟩
      have hc : P.concrete t = true := by
        unfold Program.concrete
        unfold isIface at hi
        split at hi <;> first | (exact absurd rfl hi) | (split <;> simp_all)
      simp [execOp, ho, run_makeInterface (P := P) E.w t _ hc]
  · rename_i c ho
    split at h
    · rename_i x t hcal hargs hts
      have := opq_map (P := P) I h (fun r hr => len_ok (P := P) (ty := o.type) I (ev x) hr)
      have ha : c.args = #[x] := by have e : c.args = c.args.toList.toArray := by simp
                                    rw [e, hargs]
      have ht : c.argTypes = #[t] := by have e : c.argTypes = c.argTypes.toList.toArray := by simp
                                        rw [e, hts]
      simpa [execOp, ho, resolve, hcal, ha, ht, invoke, builtin] using this
    · rename_i s x t u hcal hargs hts
      have := append_ok (P := P) (ty := o.type) I (ev s) (ev x) h
      have ha : c.args = #[s, x] := by have e : c.args = c.args.toList.toArray := by simp
                                       rw [e, hargs]
      have ht : c.argTypes = #[t, u] := by have e : c.argTypes = c.argTypes.toList.toArray := by simp
                                           rw [e, hts]
      simpa [execOp, ho, resolve, hcal, ha, ht, invoke, builtin] using this
    · rename_i x y t u hcal hargs hts
      have := opq_map (P := P) I h (fun r hr => min2_ok (P := P) (ts := #[t, u]) (ty := o.type) (ev x) (ev y) hr)
      have ha : c.args = #[x, y] := by have e : c.args = c.args.toList.toArray := by simp
                                       rw [e, hargs]
      have ht : c.argTypes = #[t, u] := by have e : c.argTypes = c.argTypes.toList.toArray := by simp
                                           rw [e, hts]
      simpa [execOp, ho, resolve, hcal, ha, ht, invoke, builtin] using this
    · rename_i x y t u hcal hargs hts
      have := opq_map (P := P) I h (fun r hr => max2_ok (P := P) (ts := #[t, u]) (ty := o.type) (ev x) (ev y) hr)
      have ha : c.args = #[x, y] := by have e : c.args = c.args.toList.toArray := by simp
                                       rw [e, hargs]
      have ht : c.argTypes = #[t, u] := by have e : c.argTypes = c.argTypes.toList.toArray := by simp
                                           rw [e, hts]
      simpa [execOp, ho, resolve, hcal, ha, ht, invoke, builtin] using this
    · cases h
  · cases h
end Go.Rx
