/- Rx, part 15: code, and a function as a whole. -/
import Derived.Test.YtghiaobecppbeaaRxN
import Derived.Scope
namespace Go.Rx
open Go Go.RowKit
set_option linter.unusedVariables false
set_option linter.unusedSimpArgs false

inductive Fx where
  | norm
  | ret
  | exit (id : Nat)
  | pan (a : AV)

structure St where
  fr : Fr
  H : Hp

def putF (nt : Nat) (dst : Option Tmp) (v : AV) (fr : Fr) (H : Hp) : Option St :=
  match dst with
  | some d => if d < nt then some ⟨(d, v) :: fr, H⟩ else none
  | none => some ⟨fr, H⟩

structure SR (nt : Nat) (E : En) (a : Act) (st : St) : Prop where
  fr : FrOk E a st.fr
  sz : a.tmps.size = nt
  df : a.defers = []
  H : E.H = st.H
  I : Inv E

theorem Fr.get_cons (d t : Nat) (v : AV) (fr : Fr) : Fr.get ((d, v) :: fr) t = if d = t then v else fr.get t := rfl

theorem put_ok' {nt : Nat} {E : En} {a : Act} {fr : Fr} {H : Hp} {dst : Option Tmp} {v : Value} {av : AV} {st' : St} (h : putF nt dst av fr H = some st') (F : FrOk E a fr) (hsz : a.tmps.size = nt) (hd : a.defers = []) (hH : E.H = H) (I : Inv E) (hv : RV E v av) : SR nt E (a.put dst v) st' := by
  cases dst with
  | none =>
    injection h with h; subst h
    exact ⟨F, hsz, hd, hH, I⟩
  | some d =>
    simp only [putF] at h
    split at h
    · rename_i hlt
      injection h with h; subst h
      refine ⟨⟨fun t => ?_⟩, by simp [Act.put, hsz], by simp [Act.put, hd], hH, I⟩
      simp only [Act.put, Fr.get_cons]
      by_cases hdt : d = t
      · subst hdt
        rw [if_pos rfl]
        simp only [Array.getD_eq_getD_getElem?, Array.getElem?_setIfInBounds_self, hsz, if_pos hlt, Option.getD_some]
        exact hv
      · rw [if_neg hdt]
        have := F.rv t
        simp only [Array.getD_eq_getD_getElem?] at this ⊢
        rw [Array.getElem?_setIfInBounds_ne hdt]
        exact this
    · cases h

def plainF (P : Program) (f : FuncId) : Bool :=
  match P.funcs[f]? with
  | some fn => !(fn.name == "runtime.NumGoroutine") && fn.body.isSome
  | none => false

def runOp (P : Program) (cfg : Cfg) (ic : Ic) (nt : Nat) (o : Oper) (st : St) : Option (Option AV × St) :=
  match o.op with
  | .call c => match c.callee with
    | .value fv => match evA st.fr fv with
      | .fn f caps => if plainF P f then (callA cfg ic (o.dst.getD 0) f (c.args.toList.map (evA st.fr) ++ caps) st.H).bind fun r => match r.1 with
          | .ret a => (putF nt o.dst a st.fr r.2).map fun s => (none, s)
          | .pan a => some (some a, ⟨st.fr, r.2⟩)
        else none
      | _ => none
    | _ => (aop P (o.dst.getD 0) (evA st.fr) st.H o.op).bind fun r => (putF nt o.dst r.1 st.fr r.2).map fun s => (none, s)
  | .panic x => match evA st.fr x with
    | .iface t a => some (some (.iface t a), st)
    | _ => none
  | _ => (aop P (o.dst.getD 0) (evA st.fr) st.H o.op).bind fun r => (putF nt o.dst r.1 st.fr r.2).map fun s => (none, s)

theorem aop_wp {P : Program} {nt : Nat} {E : En} {a : Act} {st st' : St} {p : Option AV} {o : Oper} {next : Act → World → Prop} {Q : Exit → Act → World → Prop} (R : SR nt E a st)
    (h : ((aop P (o.dst.getD 0) (evA st.fr) st.H o.op).bind fun r => (putF nt o.dst r.1 st.fr r.2).map fun s => (none, s)) = some (p, st'))
    (hn : ∀ a' E', SR nt E' a' st' → Step E E' → Fit E E' → next a' E'.w) : p = none ∧ o.wp P a E.w next Q := by
  simp only [Option.bind_eq_some_iff, Option.map_eq_some_iff] at h
  obtain ⟨⟨r, H'⟩, hr, s, hs, h⟩ := h
  injection h with h1 h2
  subst h1 h2
  rw [← R.H] at hr
  obtain ⟨v, E', nx, e1, e2, e3, e4, e5, e6, e7⟩ := aop_ok R.I R.fr hr
  refine ⟨rfl, ?_⟩
  unfold Oper.wp
  rw [e1]
  have R' : SR nt E' (a.put o.dst v) s := put_ok' hs (R.fr.mono e7) R.sz R.df e5 e4 e3
  rcases e2 with rfl | ⟨rfl, rfl⟩
  · exact hn _ _ R' e6 e7
  · exact hn _ _ R' e6 e7

theorem runOp_ok {P : Program} {cfg : Cfg} {ic : Ic} (hic : IcOk P ic) {nt : Nat} {E : En} {a : Act} {st st' : St} {p : Option AV} {o : Oper} {next : Act → World → Prop} {Q : Exit → Act → World → Prop} (R : SR nt E a st)
    (h : runOp P cfg ic nt o st = some (p, st')) (hn : p = none → ∀ a' E', SR nt E' a' st' → Step E E' → Fit E E' → next a' E'.w)
    (hp : ∀ av, p = some av → ∀ E' v, SR nt E' a st' → Step E E' → Fit E E' → RV E' v av → Q (.panic [{ v, recovered := false }]) a E'.w) : o.wp P a E.w next Q := by
  have viaAop : ((aop P (o.dst.getD 0) (evA st.fr) st.H o.op).bind fun r => (putF nt o.dst r.1 st.fr r.2).map fun s => (none, s)) = some (p, st') → o.wp P a E.w next Q := fun h => by
    by_cases hpn : p = none
    · exact (aop_wp R h (hn hpn)).2
    · simp only [Option.bind_eq_some_iff, Option.map_eq_some_iff] at h
      obtain ⟨_, _, _, _, h⟩ := h
      injection h with h1 h2
      exact absurd h1.symm hpn
  unfold runOp at h
  split at h
  · rename_i c ho
    split at h
    · rename_i fv hcal
      split at h
      · rename_i f caps hf
        split at h
        · rename_i hpl
          simp only [Option.bind_eq_some_iff] at h
          obtain ⟨⟨r, H'⟩, hr, h⟩ := h
          have hfv := R.fr.eval fv
          rw [hf] at hfv
          generalize hfe : a.eval fv = fval at hfv
          cases hfv with
          | fn _ cs _ hl hcr =>
          rw [← R.H] at hr
          have hargs : ArgsOk E (c.args.toList.map a.eval ++ cs) (c.args.toList.map (evA st.fr) ++ caps) := by
            refine ⟨by simp [hl], fun i v b hv hb => ?_⟩
            by_cases hi : i < c.args.toList.length
            · rw [List.getElem?_append_left (by simpa using hi), List.getElem?_map, Option.map_eq_some_iff] at hv hb
              obtain ⟨x, hx, rfl⟩ := hv
              obtain ⟨y, hy, rfl⟩ := hb
              rw [hx] at hy; injection hy with hy; subst hy
              exact R.fr.eval x
            · rw [List.getElem?_append_right (by simp at hi ⊢; omega)] at hv hb
              simp only [List.length_map] at hv hb
              exact hcr _ v b hv hb
          have hcall := callA_ok (P := P) hic R.I hargs hr
          have hrun : (execOp a.eval o).run P E.w = .ok (.enter f (c.args.toList.map a.eval ++ cs).toArray) E.w := by
            unfold plainF at hpl
            cases hfn : P.funcs[f]? with
            | none => rw [hfn] at hpl; cases hpl
            | some fn =>
              rw [hfn] at hpl
              simp only [Bool.and_eq_true, Bool.not_eq_true'] at hpl
              have hb : fn.body.isNone = false := by cases hbb : fn.body with
                | none => rw [hbb] at hpl; simp at hpl
                | some x => rfl
              have hname : ¬ ((fn.name == "runtime.NumGoroutine") = true) := by rw [hpl.1]; simp
              have earr : (Array.map a.eval c.args ++ cs.toArray) = (c.args.toList.map a.eval ++ cs).toArray := by apply Array.ext'; simp
              unfold execOp
              simp only [ho, resolve, hcal, hfe, Deferred.ofValue, Sem.run_bind, Sem.run_pure, Result.andThen_ok, invoke, callFunc, run_program, hfn, hb, if_neg hname]
              simp [earr]
          unfold Oper.wp
          rw [hrun]
          simp only [Oper.upon_enter]
          refine hcall.mono ?_
          rintro e w' ⟨E', rfl, I', e', S', F', hres⟩
          cases e with
          | returned v =>
            cases r with
            | pan b => exact hres.elim
            | ret b =>
              simp only [Option.map_eq_some_iff] at h
              obtain ⟨s, hs, h⟩ := h
              injection h with h1 h2
              subst h2
              exact hn h1.symm _ _ (put_ok' hs (R.fr.mono F') R.sz R.df e' I' hres) S' F'
          | panicked chain =>
            cases r with
            | ret b => exact hres.elim
            | pan b =>
              obtain ⟨v, rfl, hv⟩ := hres
              injection h with h
              injection h with h1 h2
              subst h2
              exact hp _ h1.symm _ _ ⟨R.fr.mono F', R.sz, R.df, e', I'⟩ S' F' hv
          | outgrown => cases r <;> exact hres.elim
        · cases h
      · cases h
    · exact viaAop h
  · rename_i x ho
    split at h
    · rename_i t b hx
      injection h with h
      injection h with h1 h2
      subst h1 h2
      have hv := R.fr.eval x
      rw [hx] at hv
      generalize hxe : a.eval x = xv at hv
      cases hv with
      | iface _ v _ hvr =>
      have hrun : (execOp a.eval o).run P E.w = .halt (.panic (.iface t v)) E.w := by
        unfold execOp
        simp [ho, hxe, Instr.panic]
      unfold Oper.wp
      rw [hrun]
      exact hp _ rfl E _ R (.refl E) (.refl E) (.iface _ _ _ hvr)
    · cases h
  · exact viaAop h

def wantedA (ops : Array Oper) (fr : Fr) (o : Oper) : Option Bool :=
  match o.guard with
  | none => some true
  | some (j, want) => match (ops[j]?).bind (·.dst) with
    | none => some false
    | some t => match fr.get t with
      | .d (.bool b) => some (b == want)
      | .tuple [] => some false
      | _ => none

theorem wantedA_ok {E : En} {a : Act} {fr : Fr} (F : FrOk E a fr) {ops : Array Oper} {o : Oper} {b : Bool} (h : wantedA ops fr o = some b) : Region.wanted o (yielded ops a.tmps) = b := by
  unfold wantedA at h
  unfold Region.wanted
  split at h
  · rename_i hg; injection h with h; subst h; simp [hg]
  · rename_i j want hg
    simp only [hg]
    split at h
    · rename_i hd; injection h with h; subst h; simp [yielded, hd]
    · rename_i t hd
      have hr := F.rv t
      split at h
      · rename_i c hc
        injection h with h; subst h
        rw [hc] at hr
        have hv := rep_bool (rv_d hr)
        have : a.tmps[t]? = some (.bool c) := by
          rw [Array.getD_eq_getD_getElem?] at hv
          cases ht : a.tmps[t]? with
          | none => rw [ht] at hv; cases hv
          | some u => rw [ht] at hv; simp at hv; rw [hv]
        simp [yielded, hd, this]
      · rename_i hc
        injection h with h; subst h
        rw [hc] at hr
        generalize hv : a.tmps.getD t undef = u at hr
        cases hr with
        | tuple cs _ hl _ =>
        rw [Array.getD_eq_getD_getElem?] at hv
        cases ht : a.tmps[t]? with
        | none => simp [yielded, hd, ht]
        | some u' => rw [ht] at hv; simp at hv; subst hv; simp [yielded, hd, ht]
      · cases h

def stepOp (P : Program) (cfg : Cfg) (ic : Ic) (nt : Nat) (ops : Array Oper) (i : Nat) (st : St) : Option (Option AV × St) :=
  match ops[i]? with
  | none => some (none, st)
  | some o => match wantedA ops st.fr o with
    | none => none
    | some true => runOp P cfg ic nt o st
    | some false => (putF nt o.dst (.tuple []) st.fr st.H).map fun s => (none, s)

def runOps (P : Program) (cfg : Cfg) (ic : Ic) (nt : Nat) (ops : Array Oper) : List Nat → St → Option (Option AV × St)
  | [], st => some (none, st)
  | i :: l, st => (stepOp P cfg ic nt ops i st).bind fun r => match r.1 with
    | some v => some (some v, r.2)
    | none => runOps P cfg ic nt ops l r.2

/-- How a piece of code ends. -/
def Mt (E : En) : Exit → Fx → Prop
  | .normal, .norm => True
  | .ret, .ret => True
  | .exit i, .exit j => i = j
  | .panic chain, .pan b => ∃ v, chain = [{ v, recovered := false }] ∧ RV E v b
  | _, _ => False

def opFx : Option AV → Fx
  | none => .norm
  | some v => .pan v

def Post (nt : Nat) (N : Nm → Prop) (E : En) (fx : Fx) (st' : St) : Exit → Act → World → Prop :=
  fun e a' w' => ∃ E', E'.w = w' ∧ SR nt E' a' st' ∧ Step E E' ∧ Pin N E E' ∧ Mt E' e fx

theorem runOps_ok {P : Program} {cfg : Cfg} {ic : Ic} (hic : IcOk P ic) {nt : Nat} (N : Nm → Prop) {ops : Array Oper} : ∀ (l : List Nat) (E : En) (a : Act) (st st' : St) (p : Option AV), SR nt E a st → runOps P cfg ic nt ops l st = some (p, st') →
    ∀ (Q : Exit → Act → World → Prop), (∀ e a' w', Post nt N E (opFx p) st' e a' w' → Q e a' w') → wpOps P ops Q l a E.w
  | [], E, a, st, st', p, R, h, Q, hQ => by
    injection h with h
    injection h with h1 h2
    subst h1 h2
    exact hQ _ _ _ ⟨E, rfl, R, .refl E, .refl N E, trivial⟩
  | i :: l, E, a, st, st', p, R, h, Q, hQ => by
    simp only [runOps, Option.bind_eq_some_iff] at h
    obtain ⟨⟨q, s⟩, hs, h⟩ := h
    unfold stepOp at hs
    unfold wpOps
    split at hs
    · rename_i ho
      injection hs with hs
      injection hs with h1 h2
      subst h1 h2
      simp only [ho]
      exact runOps_ok hic N l E a st st' p R h Q hQ
    · rename_i o ho
      simp only [ho]
      split at hs
      · cases hs
      · rename_i hw
        rw [wantedA_ok R.fr hw, if_pos rfl]
        refine .inl (runOp_ok (cfg := cfg) hic R hs (fun hq a' E' R' S' F' => ?_) (fun av hq E' v R' S' F' hv => ?_))
        · subst hq
          refine runOps_ok hic N l E' a' s st' p R' h Q (fun e a'' w'' ⟨E'', h1, h2, h3, h4, h5⟩ => hQ _ _ _ ⟨E'', h1, h2, S'.trans R'.I h3, (F'.pin N).trans h4, h5⟩)
        · subst hq
          injection h with h
          injection h with h1 h2
          subst h1 h2
          exact hQ _ _ _ ⟨E', rfl, R', S', F'.pin N, v, rfl, hv⟩
      · rename_i hw
        rw [wantedA_ok R.fr hw, if_neg (by simp)]
        rw [Option.map_eq_some_iff] at hs
        obtain ⟨s', hs', h2⟩ := hs
        injection h2 with h2 h3
        subst h2 h3
        have R' : SR nt E (a.put o.dst undef) s' := put_ok' hs' R.fr R.sz R.df R.H R.I (.tuple [] [] rfl (fun i v a hv => by simp at hv))
        exact runOps_ok hic N l E _ s' st' p R' h Q hQ
end Go.Rx
