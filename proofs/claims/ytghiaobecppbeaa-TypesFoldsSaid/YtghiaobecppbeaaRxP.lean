/- Rx, part 16: code, loops, and a function as a whole. -/
import Derived.Test.YtghiaobecppbeaaRxR
namespace Go.Rx
open Go Go.RowKit
set_option linter.unusedVariables false
set_option linter.unusedSimpArgs false

def keyOf : Code → Option Nat
  | .region id _ _ => some id
  | .seq a b => (keyOf a).orElse fun _ => keyOf b
  | .block _ b => keyOf b
  | .loop b => keyOf b
  | .scope b => keyOf b
  | _ => none


/-- The version that a row gets at a seam: 0 if it is 0. -/
def seamV (x : Option AObj) : Nat :=
  match x with
  | some (.arr _ _ v _) => if v = 0 then 0 else 1
  | some (.frz _ _ v _) => if v = 0 then 0 else 1
  | _ => 0
def pinsOk (g : Gm) (H : Hp) (pins : List Nm) : Bool := pins.all fun o => match H.get o with
  | some (.cells _) => decide (g.get o = some (o, 0))
  | some x => decide (g.get o = some (o, seamV (some x)) ∨ g.get o = some (o, 1))
  | none => true

/-- At a loop's head: what is dead is forgotten. -/
def prune (pins : List Nm) (keep : List Nat) (st : St) : Option St :=
  let g : Gm := (reach st.H 200 (pins ++ hdlL (keep.map st.fr.get)) []).map fun o => (o, (o, if pins.contains o then seamV (st.H.get o) else 0))
  if g.ok && pinsOk g st.H pins then some ⟨keep.map fun t => (t, ren g st.H (st.fr.get t)), renHp g st.H g⟩ else none

/-- Behind a loop: what is dead is forgotten, if that is asked for. -/
def exitP (pins : List Nm) (kx : Option (List Nat)) (r : Fx × St) : Option (Fx × St) := match kx with
  | none => some r
  | some keep => match r.1 with
    | .pan _ => some r
    | _ => (prune pins keep r.2).map fun s => (r.1, s)

def loopN (step : St → Option (Fx × St)) : Nat → St → Option (Fx × St)
  | 0, _ => none
  | n + 1, st => (step st).bind fun r => match r.1 with
    | .norm => loopN step n r.2
    | _ => some r

def runCode (P : Program) (cfg : Cfg) (ic : Ic) (nt f lf : Nat) (pins : List Nm) : Code → St → Option (Fx × St)
  | .skip => fun st => some (.norm, st)
  | .label _ => fun st => some (.norm, st)
  | .region _ ops d => fun st => (if d then drRun P cfg ic nt ops st else runOps P cfg ic nt ops (List.range ops.size) st).map fun r => (opFx r.1, r.2)
  | .seq a b => fun st => (runCode P cfg ic nt f lf pins a st).bind fun r => match r.1 with
    | .norm => runCode P cfg ic nt f lf pins b r.2
    | _ => some r
  | .cond c a b => fun st => match evA st.fr c with
    | .d (.bool t) => if t = true then runCode P cfg ic nt f lf pins a st else runCode P cfg ic nt f lf pins b st
    | _ => none
  | .block id b => fun st => (runCode P cfg ic nt f lf pins b st).map fun r => match r.1 with
    | .exit i => if i = id then (.norm, r.2) else r
    | _ => r
  | .loop b => fun st => (loopN (fun st => (prune pins (cfg.keep f ((keyOf b).getD 0)) st).bind (runCode P cfg ic nt f lf pins b)) lf st).bind (exitP pins (cfg.keepX f ((keyOf b).getD 0)))
  | .scope b => fun st => runCode P cfg ic nt f lf pins b st
  | .exit id => fun st => some (.exit id, st)
  | .ret => fun st => some (.ret, st)
  | _ => fun _ => none

def PinL (pins : List Nm) : Nm → Prop := fun o => o ∈ pins

theorem pinsOk_pin {g : Gm} {E : En} {pins : List Nm} (hg : g.ok = true) (h : pinsOk g E.H pins = true) : Pin (PinL pins) E (rehome g E) := fun o ho => by
  simp only [pinsOk, List.all_eq_true] at h
  have h := h o ho
  refine ⟨fun cs hx => ?_, fun x r hx hr => ?_⟩
  · rw [hx] at h
    simp only [decide_eq_true_eq] at h
    obtain ⟨h1, h2⟩ := (rehome_hom hg E).obj o _ _ h hx
    exact ⟨_, h1, h2⟩
  · rw [hx] at h
    have key : ∀ nv, g.get o = some (o, nv) → (nv = 0 → r.2.1 = 0) → ∃ x' r', (rehome g E).H.get o = some x' ∧ rowOf x' = some r' ∧ (r'.2.1 = 0 → r.2.1 = 0 ∧ r'.1 = r.1 ∧ (rehome g E).φ o = E.φ o ∧ r.2.2.length ≤ r'.2.2.length) := fun nv hgo hnv => by
      obtain ⟨h1, h2⟩ := (rehome_hom hg E).obj o _ _ hgo hx
      cases x with
      | cells cs => cases hr
      | arr e s v es => injection hr with hr; subst hr; exact ⟨_, _, h1, rfl, fun h0 => ⟨hnv h0, rfl, h2, Nat.le_refl _⟩⟩
      | frz e s v es => injection hr with hr; subst hr; exact ⟨_, _, h1, rfl, fun h0 => ⟨hnv h0, rfl, h2, Nat.le_refl _⟩⟩
    cases x with
    | cells cs => cases hr
    | arr e s v es =>
      injection hr with hr; subst hr
      simp only [decide_eq_true_eq] at h
      rcases h with h | h
      · exact key _ h (fun h0 => by simp only [seamV] at h0; split at h0 <;> first | assumption | cases h0)
      · exact key _ h (fun h0 => by cases h0)
    | frz e s v es =>
      injection hr with hr; subst hr
      simp only [decide_eq_true_eq] at h
      rcases h with h | h
      · exact key _ h (fun h0 => by simp only [seamV] at h0; split at h0 <;> first | assumption | cases h0)
      · exact key _ h (fun h0 => by cases h0)

theorem prune_ok {pins : List Nm} {keep : List Nat} {nt : Nat} {E : En} {a : Act} {st st' : St} (R : SR nt E a st) (h : prune pins keep st = some st') : ∃ E', E'.w = E.w ∧ SR nt E' a st' ∧ Step E E' ∧ Pin (PinL pins) E E' := by
  unfold prune at h
  simp only [] at h
  split at h
  · rename_i hh
    simp only [Bool.and_eq_true] at hh
    obtain ⟨hg, hp⟩ := hh
    injection h with h
    subst h
    rw [← R.H] at hg hp ⊢
    obtain ⟨I', S'⟩ := rehome_ok hg R.I
    refine ⟨rehome _ E, rfl, ⟨⟨fun t => ?_⟩, R.sz, R.df, rfl, I'⟩, S', pinsOk_pin hg hp⟩
    simp only [fr_keep]
    split
    · exact (R.fr.rv t).hom (rehome_hom hg E)
    · exact .undef _
  · cases h

theorem Post.mono {nt : Nat} {N : Nm → Prop} {E E' : En} {fx : Fx} {st : St} {e : Exit} {a : Act} {w : World} (I' : Inv E') (S : Step E E') (Pn : Pin N E E') (h : Post nt N E' fx st e a w) : Post nt N E fx st e a w := by
  obtain ⟨E'', h1, h2, h3, h4, h5⟩ := h
  exact ⟨E'', h1, h2, S.trans I' h3, Pn.trans h4, h5⟩

theorem exitP_ok {pins : List Nm} {kx : Option (List Nat)} {nt : Nat} {E : En} {fx fx' : Fx} {st st' : St} (h : exitP pins kx (fx, st) = some (fx', st')) {e : Exit} {a : Act} {w : World} (hp : Post nt (PinL pins) E fx st e a w) : Post nt (PinL pins) E fx' st' e a w := by
  unfold exitP at h
  cases kx with
  | none => injection h with h; injection h with h1 h2; subst h1 h2; exact hp
  | some keep =>
    simp only [] at h
    obtain ⟨E', rfl, R', S', P', M'⟩ := hp
    cases fx with
    | pan b => injection h with h; injection h with h1 h2; subst h1 h2; exact ⟨E', rfl, R', S', P', M'⟩
    | _ =>
      simp only [Option.map_eq_some_iff] at h
      obtain ⟨s, hs, h⟩ := h
      injection h with h1 h2; subst h1 h2
      obtain ⟨E2, w2, R2, S2, P2⟩ := prune_ok R' hs
      refine ⟨E2, w2, R2, S'.trans R'.I S2, P'.trans P2, ?_⟩
      cases e <;> first | exact M' | exact M'.elim

theorem loopN_ok {P : Program} {nt : Nat} {N : Nm → Prop} {c : Code} {step : St → Option (Fx × St)}
    (hstep : ∀ (E : En) (a : Act) (st : St) (fx : Fx) (st' : St), SR nt E a st → step st = some (fx, st') → c.wp P (Post nt N E fx st') a E.w) :
    ∀ (n : Nat) (E : En) (a : Act) (st : St) (fx : Fx) (st' : St), SR nt E a st → loopN step n st = some (fx, st') → ∀ Q, (∀ e a' w', (e = .normal → False) → Post nt N E fx st' e a' w' → Q e a' w') → Code.rounds P c Q n a E.w
  | 0, E, a, st, fx, st', R, h, Q, hQ => by cases h
  | n + 1, E, a, st, fx, st', R, h, Q, hQ => by
    simp only [loopN, Option.bind_eq_some_iff] at h
    obtain ⟨⟨fx1, s1⟩, h1, h⟩ := h
    rw [rounds_succ]
    refine wp_mono (hstep E a st fx1 s1 R h1) (fun e a' w' hp => ?_)
    obtain ⟨E', rfl, R', S', P', M'⟩ := hp
    cases fx1 with
    | norm =>
      cases e <;> try exact M'.elim
      simp only [Exit.then]
      exact loopN_ok hstep n E' a' s1 fx st' R' h Q (fun e a'' w'' hne hp => hQ e a'' w'' hne (hp.mono R'.I S' P'))
    | ret =>
      injection h with h; injection h with h2 h3; subst h2 h3
      cases e <;> try exact M'.elim
      exact hQ _ _ _ (by simp) ⟨E', rfl, R', S', P', M'⟩
    | exit i =>
      injection h with h; injection h with h2 h3; subst h2 h3
      cases e <;> try exact M'.elim
      exact hQ _ _ _ (by simp) ⟨E', rfl, R', S', P', M'⟩
    | pan b =>
      injection h with h; injection h with h2 h3; subst h2 h3
      cases e <;> try exact M'.elim
      exact hQ _ _ _ (by simp) ⟨E', rfl, R', S', P', M'⟩

theorem runCode_ok {P : Program} {cfg : Cfg} {ic : Ic} (hic : IcOk P ic) {nt f lf : Nat} {pins : List Nm} : ∀ (c : Code) (E : En) (a : Act) (st : St) (fx : Fx) (st' : St), SR nt E a st →
    runCode P cfg ic nt f lf pins c st = some (fx, st') → c.wp P (Post nt (PinL pins) E fx st') a E.w
  | .skip, E, a, st, fx, st', R, h => by
    injection h with h; injection h with h1 h2; subst h1 h2
    exact wp_skip ⟨E, rfl, R, .refl E, .refl _ E, trivial⟩
  | .label l, E, a, st, fx, st', R, h => by
    injection h with h; injection h with h1 h2; subst h1 h2
    exact wp_label ⟨E, rfl, R, .refl E, .refl _ E, trivial⟩
  | .exit id, E, a, st, fx, st', R, h => by
    injection h with h; injection h with h1 h2; subst h1 h2
    exact wp_exit ⟨E, rfl, R, .refl E, .refl _ E, rfl⟩
  | .ret, E, a, st, fx, st', R, h => by
    injection h with h; injection h with h1 h2; subst h1 h2
    exact wp_ret ⟨E, rfl, R, .refl E, .refl _ E, trivial⟩
  | .region id ops d, E, a, st, fx, st', R, h => by
    simp only [runCode, Option.map_eq_some_iff] at h
    obtain ⟨⟨p, s⟩, hp, h⟩ := h
    injection h with h1 h2
    subst h1 h2
    cases d with
    | false => exact wp_region (runOps_ok hic (PinL pins) _ E a st s p R (by simpa using hp) _ (fun e a' w' h => h))
    | true => exact drRun_ok hic (by simpa using hp) (PinL pins) R id
  | .seq x y, E, a, st, fx, st', R, h => by
    simp only [runCode, Option.bind_eq_some_iff] at h
    obtain ⟨⟨fx1, s1⟩, h1, h⟩ := h
    refine wp_seq (wp_mono (runCode_ok hic x E a st fx1 s1 R h1) (fun e a' w' hp => ?_))
    obtain ⟨E', rfl, R', S', P', M'⟩ := hp
    cases fx1 with
    | norm =>
      cases e <;> try exact M'.elim
      simp only [Exit.then]
      exact wp_mono (runCode_ok hic y E' a' s1 fx st' R' h) (fun e a'' w'' hp => hp.mono R'.I S' P')
    | ret =>
      injection h with h; injection h with h2 h3; subst h2 h3
      cases e <;> try exact M'.elim
      exact ⟨E', rfl, R', S', P', M'⟩
    | exit i =>
      injection h with h; injection h with h2 h3; subst h2 h3
      cases e <;> try exact M'.elim
      exact ⟨E', rfl, R', S', P', M'⟩
    | pan b =>
      injection h with h; injection h with h2 h3; subst h2 h3
      cases e <;> try exact M'.elim
      exact ⟨E', rfl, R', S', P', M'⟩
  | .cond c x y, E, a, st, fx, st', R, h => by
    simp only [runCode] at h
    split at h
    · rename_i t hc
      have hv := R.fr.eval c
      rw [hc] at hv
      refine wp_cond (t := t) (rep_bool (rv_d hv)) ?_
      cases t with
      | true => exact runCode_ok hic x E a st fx st' R (by simpa using h)
      | false => exact runCode_ok hic y E a st fx st' R (by simpa using h)
    · cases h
  | .block id b, E, a, st, fx, st', R, h => by
    simp only [runCode, Option.map_eq_some_iff] at h
    obtain ⟨⟨fx1, s1⟩, h1, h⟩ := h
    refine wp_block (wp_mono (runCode_ok hic b E a st fx1 s1 R h1) (fun e a' w' hp => ?_))
    obtain ⟨E', rfl, R', S', P', M'⟩ := hp
    cases fx1 with
    | norm =>
      injection h with h2 h3; subst h2 h3
      cases e <;> try exact M'.elim
      exact ⟨E', rfl, R', S', P', M'⟩
    | ret =>
      injection h with h2 h3; subst h2 h3
      cases e <;> try exact M'.elim
      exact ⟨E', rfl, R', S', P', M'⟩
    | pan b =>
      injection h with h2 h3; subst h2 h3
      cases e <;> try exact M'.elim
      exact ⟨E', rfl, R', S', P', M'⟩
    | exit i =>
      cases e <;> try exact M'.elim
      rename_i i'
      have e1 : i' = i := M'
      subst e1
      simp only [Exit.inBlock]
      simp only [] at h
      split at h
      · rename_i hi
        injection h with h2 h3; subst h2 h3
        rw [if_pos hi]
        exact ⟨E', rfl, R', S', P', trivial⟩
      · rename_i hi
        injection h with h2 h3; subst h2 h3
        rw [if_neg hi]
        exact ⟨E', rfl, R', S', P', rfl⟩
  | .loop b, E, a, st, fx, st', R, h => by
    simp only [runCode, Option.bind_eq_some_iff] at h
    obtain ⟨⟨fx0, st0⟩, h, hx⟩ := h
    refine wp_loop_rounds lf (loopN_ok (N := PinL pins) (fun E1 a1 s1 fx1 s1' R1 h1 => ?_) lf E a st fx0 st0 R h _ (fun e a' w' _ hp => exitP_ok hx hp))
    simp only [Option.bind_eq_some_iff] at h1
    obtain ⟨s2, h2, h3⟩ := h1
    obtain ⟨E2, w2, R2, S2, P2⟩ := prune_ok R1 h2
    rw [← w2]
    exact wp_mono (runCode_ok hic b E2 a1 s2 fx1 s1' R2 h3) (fun e a' w' hp => hp.mono R2.I S2 P2)
  | .scope b, E, a, st, fx, st', R, h => by
    simp only [runCode] at h
    refine wp_scope_straight (wp_mono (runCode_ok hic b E a st fx st' R h) (fun e a' w' hp => ?_))
    obtain ⟨E', rfl, R', S', P', M'⟩ := hp
    cases e <;> first
      | exact ⟨E', rfl, R', S', P', M'⟩
      | (cases fx <;> exact M'.elim)
  | .goto l, E, a, st, fx, st', R, h => by cases h
  | .refuse w, E, a, st, fx, st', R, h => by cases h
  | .rangeFunc _ _ _ _, E, a, st, fx, st', R, h => by cases h

/-- The results. -/
def resV (P : Program) (st : St) : ResultVar → Option AV
  | .tmp t => some (st.fr.get t)
  | .cell t ty => aLoad P st.H ty (st.fr.get t)
def resL (P : Program) (st : St) : List ResultVar → Option (List AV)
  | [] => some []
  | r :: l => (resV P st r).bind fun a => (resL P st l).map fun as => a :: as
def resA (P : Program) (fn : Func) (st : St) : Option AV := (resL P st fn.results.toList).map fun as => match as with
  | [a] => a
  | as => .tuple as

def resSem (tmps : Array Value) : ResultVar → Sem Value
  | .tmp t => pure (tmps.getD t undef)
  | .cell c t => do loadVar t (← asAddr (tmps.getD c undef))
theorem resL_ok {P : Program} {nt : Nat} {E : En} {a : Act} {st : St} (R : SR nt E a st) : ∀ (l : List ResultVar) (as : List AV), resL P st l = some as →
    ∃ vs : List Value, (l.mapM (resSem a.tmps)).run P E.w = .ok vs E.w ∧ ArgsOk E vs as
  | [], as, h => by injection h with h; subst h; exact ⟨[], by simp, rfl, fun i v a hv => by simp at hv⟩
  | r :: l, as, h => by
    simp only [resL, Option.bind_eq_some_iff, Option.map_eq_some_iff] at h
    obtain ⟨b, hb, bs, hbs, rfl⟩ := h
    obtain ⟨vs, h1, h2, h3⟩ := resL_ok R l bs hbs
    have one : ∃ v, (resSem a.tmps r).run P E.w = .ok v E.w ∧ RV E v b := by
      cases r with
      | tmp t => injection hb with hb; subst hb; exact ⟨_, rfl, R.fr.rv t⟩
      | cell c t =>
        simp only [resV] at hb
        rw [← R.H] at hb
        obtain ⟨v, hv, hr⟩ := load_ok (P := P) R.I (R.fr.rv c) hb
        refine ⟨v, ?_, hr⟩
        have hp : ∃ ad, a.tmps.getD c undef = .pointer (some ad) := by
          unfold aLoad at hb
          simp only [Option.bind_eq_some_iff] at hb
          obtain ⟨_, _, _, _, ⟨cs, off⟩, hrd, _⟩ := hb
          obtain ⟨bb, oo, e, _⟩ := rdAt_ok R.I (R.fr.rv c) hrd
          exact ⟨_, e⟩
        obtain ⟨ad, hp⟩ := hp
        rw [hp] at hv
        simp only [resSem, hp]
        simpa [Instr.loadAt, Instr.sureAddr, asAddr] using hv
    obtain ⟨v, hv, hr'⟩ := one
    refine ⟨v :: vs, ?_, by simp [h2], fun i w c hw hc => ?_⟩
    · simp only [List.mapM_cons, Sem.run_bind, hv, Result.andThen_ok, h1, Sem.run_pure]
    · cases i with
      | zero => simp at hw hc; subst hw hc; exact hr'
      | succ i => exact h3 i w c (by simpa using hw) (by simpa using hc)

theorem resA_ok {P : Program} {nt : Nat} {E : En} {a : Act} {st : St} (R : SR nt E a st) {fn : Func} {r : AV} (h : resA P fn st = some r) : ∃ v, (results fn a.tmps).run P E.w = .ok v E.w ∧ RV E v r := by
  unfold resA at h
  rw [Option.map_eq_some_iff] at h
  obtain ⟨as, has, h⟩ := h
  obtain ⟨vs, h1, h2, h3⟩ := resL_ok (P := P) R fn.results.toList as has
  have hm : (fn.results.mapM (resSem a.tmps)).run P E.w = .ok vs.toArray E.w := by
    rw [Array.mapM_eq_mapM_toList]
    simp only [Sem.run_map, h1, Result.andThen_ok]
  have hrun : (results fn a.tmps).run P E.w = .ok (if h : vs.toArray.size = 1 then vs.toArray[0] else .tuple vs.toArray) E.w := by
    have e : results fn a.tmps = (do let vs ← fn.results.mapM (resSem a.tmps); pure (if h : vs.size = 1 then vs[0] else .tuple vs)) := by
      unfold results
      congr 1
    rw [e, Sem.run_bind, hm, Result.andThen_ok]
    rfl
  refine ⟨_, hrun, ?_⟩
  clear hrun hm h1 has
  cases as with
  | nil =>
    subst h
    obtain rfl : vs = [] := List.eq_nil_of_length_eq_zero h2
    exact .tuple [] [] rfl h3
  | cons x as =>
    cases as with
    | nil =>
      subst h
      cases vs with
      | nil => simp at h2
      | cons v vs =>
        obtain rfl : vs = [] := List.eq_nil_of_length_eq_zero (by simpa using h2)
        exact h3 0 v x rfl rfl
    | cons y l =>
      subst h
      rw [dif_neg (by simp at h2 ⊢; omega)]
      exact .tuple vs _ h2 h3

/-- A result is handed back: as plain data, but for rows that may be taken over. -/
def keepR (own : Bool) : AV → Bool
  | .own .. => own
  | .nilsl => own
  | _ => false
def sealR1 (own : Bool) (H : Hp) (a : AV) : AV × Hp := if keepR own a then (a, H) else sealV H a
def sealRs (own : Bool) : Hp → List AV → List AV × Hp
  | H, [] => ([], H)
  | H, a :: r => ((sealR1 own H a).1 :: (sealRs own (sealR1 own H a).2 r).1, (sealRs own (sealR1 own H a).2 r).2)
def sealR (own : Bool) (H : Hp) : AV → AV × Hp
  | .tuple vs => (.tuple (sealRs own H vs).1, (sealRs own H vs).2)
  | .iface t a => (.iface t (sealV H a).1, (sealV H a).2)
  | a => sealR1 own H a

theorem sealR1_ok (own : Bool) {E : En} (I : Inv E) {v : Value} {a : AV} (h : RV E v a) : ∃ E', E'.w = E.w ∧ E'.H = (sealR1 own E.H a).2 ∧ Inv E' ∧ Step E E' ∧ Fit E E' ∧ RV E' v (sealR1 own E.H a).1 := by
  unfold sealR1
  split
  · exact ⟨E, rfl, rfl, I, .refl E, .refl E, h⟩
  · exact sealV_ok I h
theorem sealRs_ok (own : Bool) {E : En} (I : Inv E) {vs : List Value} {as : List AV} (h : ArgsOk E vs as) : ∃ E', E'.w = E.w ∧ E'.H = (sealRs own E.H as).2 ∧ Inv E' ∧ Step E E' ∧ Fit E E' ∧ ArgsOk E' vs (sealRs own E.H as).1 := by
  induction as generalizing E vs with
  | nil => exact ⟨E, rfl, rfl, I, .refl E, .refl E, h⟩
  | cons a r ih =>
    obtain ⟨hl, hr⟩ := h
    cases vs with
    | nil => simp at hl
    | cons v vs =>
      obtain ⟨E1, a1, a2, a3, a4, a5, a6⟩ := sealR1_ok own I (hr 0 v a rfl rfl)
      obtain ⟨E2, b1, b2, b3, b4, b5, b6⟩ := ih a3 (vs := vs) ⟨by simpa using hl, fun i v a hv ha => (hr (i + 1) v a hv ha).mono a5⟩
      simp only [sealRs]
      rw [a2] at b2 b6
      refine ⟨E2, b1.trans a1, b2, b3, a4.trans a3 b4, a5.trans b5, by simp [b6.1], fun i w b hw hb => ?_⟩
      cases i with
      | zero => simp at hw hb; subst hw hb; exact a6.mono b5
      | succ i => exact b6.2 i w b (by simpa using hw) (by simpa using hb)
theorem sealR_ok (own : Bool) {E : En} (I : Inv E) {v : Value} {a : AV} (h : RV E v a) : ∃ E', E'.w = E.w ∧ E'.H = (sealR own E.H a).2 ∧ Inv E' ∧ Step E E' ∧ Fit E E' ∧ RV E' v (sealR own E.H a).1 := by
  cases a <;> first
    | exact sealR1_ok own I h
    | skip
  · cases h with
    | tuple cs vs hl hr =>
    obtain ⟨E', a1, a2, a3, a4, a5, a6⟩ := sealRs_ok own I ⟨hl, hr⟩
    exact ⟨E', a1, a2, a3, a4, a5, .tuple cs _ a6.1 a6.2⟩
  · cases h with
    | iface t v a hr =>
    obtain ⟨E', a1, a2, a3, a4, a5, a6⟩ := sealV_ok I hr
    exact ⟨E', a1, a2, a3, a4, a5, .iface _ _ _ a6⟩

def comps : AV → List AV
  | .tuple vs => vs
  | a => [a]
def verR (H : Hp) (pins : List Nm) (a : AV) (o : Nm) : Nat :=
  match H.get o with
  | some (.cells _) => 0
  | x => if pins.contains o then (if (hdlV a).contains o then 1 else seamV x) else 0
def gRes (H : Hp) (pins : List Nm) (a : AV) : Gm := (gather H 200 (pins.map (fun o => (o, o)) ++ hdArgs .res 0 (comps a)) []).map fun x => (x.1, (x.2, verR H pins a x.1))

def finR (pins : List Nm) (own : Bool) (H : Hp) (a : AV) : Option (AV × Hp) :=
  let s := sealR own H a
  let g := gRes s.2 pins s.1
  if g.ok && pinsOk g s.2 pins then some (ren g s.2 s.1, renHp g s.2 g) else none

theorem finR_ok {pins : List Nm} {own : Bool} {E : En} (I : Inv E) {v : Value} {a r : AV} {H' : Hp} (h : RV E v a) (hf : finR pins own E.H a = some (r, H')) : ∃ E', E'.w = E.w ∧ E'.H = H' ∧ Inv E' ∧ Step E E' ∧ Pin (PinL pins) E E' ∧ RV E' v r := by
  unfold finR at hf
  simp only [] at hf
  obtain ⟨E1, a1, a2, a3, a4, a5, a6⟩ := sealR_ok own I h
  rw [← a2] at hf
  split at hf
  · rename_i hh
    simp only [Bool.and_eq_true] at hh
    obtain ⟨hg, hp⟩ := hh
    injection hf with hf
    injection hf with h1 h2
    subst h1 h2
    obtain ⟨I', S'⟩ := rehome_ok hg a3
    exact ⟨rehome _ E1, a1, rfl, I', a4.trans a3 S', (a5.pin _).trans (pinsOk_pin hg hp), a6.hom (rehome_hom hg E1)⟩
  · cases hf

def finish (P : Program) (own : Bool) (fn : Func) (pins : List Nm) (r : Fx × St) : Option (Res × Hp) :=
  match r.1 with
  | .norm => (resA P fn r.2).bind fun a => (finR pins own r.2.H a).map fun x => (.ret x.1, x.2)
  | .ret => (resA P fn r.2).bind fun a => (finR pins own r.2.H a).map fun x => (.ret x.1, x.2)
  | .pan a => (finR pins own r.2.H a).map fun x => (.pan x.1, x.2)
  | .exit _ => none

def frOf : Nat → List AV → Fr
  | _, [] => []
  | i, a :: r => (i, a) :: frOf (i + 1) r
theorem frOf_get : ∀ (l : List AV) (i t : Nat), Fr.get (frOf i l) t = if i ≤ t then (l[t - i]?).getD .undef else .undef
  | [], i, t => by simp [frOf, Fr.get]
  | a :: l, i, t => by
    simp only [frOf, Fr.get_cons, frOf_get l (i + 1) t]
    by_cases h : i = t
    · subst h; simp
    · rw [if_neg h]
      by_cases h2 : i ≤ t
      · rw [if_pos h2, if_pos (by omega), show t - i = (t - (i + 1)) + 1 by omega, List.getElem?_cons_succ]
      · rw [if_neg h2, if_neg (by omega)]

/-- A function, called with so much fuel. -/
def icall (P : Program) (cfg : Cfg) : Nat → Ic
  | 0 => fun _ _ _ => none
  | k + 1 => fun f args H => match cfg.ext f with
    | some g => g args H
    | none => (P.funcs[f]?).bind fun fn => fn.body.bind fun c => if args.length ≤ fn.ntmps then
      (runCode P cfg (icall P cfg k) fn.ntmps f k (H.map (·.1)) c ⟨frOf 0 args, H⟩).bind (finish P (cfg.ownR f) fn (H.map (·.1)))
    else none

theorem Hp.get_name : ∀ {H : Hp} {o : Nm} {x : AObj}, H.get o = some x → o ∈ H.map (·.1)
  | [], _, _, h => by cases h
  | (p, y) :: r, o, x, h => by
    simp only [Hp.get_cons] at h
    split at h
    · rename_i hp; subst hp; simp
    · simp only [List.map_cons]; exact List.mem_cons_of_mem _ (Hp.get_name h)

def ExtOk (P : Program) (cfg : Cfg) : Prop := ∀ f g, cfg.ext f = some g → FnOk P f g

theorem icall_ok {P : Program} {cfg : Cfg} (hext : ExtOk P cfg) : ∀ k, IcOk P (icall P cfg k)
  | 0 => fun f args H res H' h => by cases h
  | k + 1 => fun f args H res H' h E vs I hH hargs => by
    subst hH
    have ih := icall_ok hext k
    simp only [icall] at h
    split at h
    · rename_i g hg
      exact hext f g hg args _ res H' h E vs I rfl hargs
    simp only [Option.bind_eq_some_iff] at h
    obtain ⟨fn, hfn, c, hc, h⟩ := h
    split at h
    · rename_i hle
      simp only [Option.bind_eq_some_iff] at h
      obtain ⟨⟨fx, st'⟩, hrun, hfin⟩ := h
      have hl := hargs.1
      have R : SR fn.ntmps E { tmps := vs.toArray ++ Array.replicate (fn.ntmps - vs.toArray.size) undef, defers := [] } ⟨frOf 0 args, E.H⟩ := by
        refine ⟨⟨fun t => ?_⟩, by simp; omega, rfl, rfl, I⟩
        simp only [frOf_get, Nat.zero_le, if_true, Nat.sub_zero]
        by_cases ht : t < args.length
        · have hv : vs[t]? = some vs[t] := List.getElem?_eq_getElem (by omega)
          have ha : args[t]? = some args[t] := List.getElem?_eq_getElem ht
          rw [ha]
          simp only [Option.getD_some]
          rw [Array.getD_eq_getD_getElem?, Array.getElem?_append_left (by simp; omega)]
          simp only [List.getElem?_toArray, hv, Option.getD_some]
          exact hargs.2 t _ _ hv ha
        · rw [List.getElem?_eq_none (by omega)]
          exact .undef _
      refine calls_of_wp hfn hc (wp_mono (runCode_ok ih c E _ _ fx st' R hrun) (fun e a' w' hp => ?_))
      obtain ⟨E', rfl, R', S', P', M'⟩ := hp
      have allN : ∀ E2, Pin (PinL (E.H.map (·.1))) E E2 → Pin (fun _ => True) E E2 := fun E2 h o _ => ⟨fun cs hg => (h o (Hp.get_name hg)).1 cs hg, fun x r hg => (h o (Hp.get_name hg)).2 x r hg⟩
      have done : ∀ (r : AV) (v : Value) (res' : AV) (H2 : Hp), RV E' v r → finR (E.H.map (·.1)) (cfg.ownR f) st'.H r = some (res', H2) → ∃ E2, E2.w = E'.w ∧ Inv E2 ∧ E2.H = H2 ∧ Step E E2 ∧ RV E2 v res' ∧ Pin (fun _ => True) E E2 := fun r v res' H2 hr hf => by
        rw [← R'.H] at hf
        obtain ⟨E2, b1, b2, b3, b4, b5, b6⟩ := finR_ok R'.I hr hf
        exact ⟨E2, b1, b3, b2, S'.trans R'.I b4, b6, allN E2 (P'.trans b5)⟩
      have retd : ∀ r, resA P fn st' = some r → ∀ x, finR (E.H.map (·.1)) (cfg.ownR f) st'.H r = some x → (Res.ret x.1, x.2) = (res, H') →
          a'.defers = [] ∧ ∃ v, (results fn a'.tmps).run P E'.w = .ok v E'.w ∧ ∃ E2, E2.w = E'.w ∧ Inv E2 ∧ E2.H = H' ∧ Step E E2 ∧ ROk E2 (.returned v) res ∧ Pin (fun _ => True) E E2 := fun r hr x hx he => by
        injection he with h1 h2
        subst h1 h2
        obtain ⟨v, hv, hvr⟩ := resA_ok R' hr
        obtain ⟨E2, b1, b2, b3, b4, b5, b6⟩ := done r v x.1 x.2 hvr hx
        exact ⟨R'.df, v, hv, E2, b1, b2, b3, b4, b5, b6⟩
      cases fx with
      | exit i => cases hfin
      | norm =>
        cases e <;> try exact M'.elim
        simp only [finish, Option.bind_eq_some_iff, Option.map_eq_some_iff] at hfin
        obtain ⟨r, hr, x, hx, he⟩ := hfin
        exact retd r hr x hx he
      | ret =>
        cases e <;> try exact M'.elim
        simp only [finish, Option.bind_eq_some_iff, Option.map_eq_some_iff] at hfin
        obtain ⟨r, hr, x, hx, he⟩ := hfin
        exact retd r hr x hx he
      | pan b =>
        cases e <;> try exact M'.elim
        obtain ⟨v, rfl, hv⟩ := M'
        simp only [finish, Option.map_eq_some_iff] at hfin
        obtain ⟨x, hx, he⟩ := hfin
        injection he with h1 h2
        subst h1 h2
        obtain ⟨E2, b1, b2, b3, b4, b5, b6⟩ := done b v x.1 x.2 hv hx
        exact ⟨R'.df, E2, b1, b2, b3, b4, ⟨v, rfl, b5⟩, b6⟩
    · cases h
end Go.Rx
