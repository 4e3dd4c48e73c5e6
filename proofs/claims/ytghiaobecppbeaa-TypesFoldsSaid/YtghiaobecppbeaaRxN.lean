/- Rx, part 14: a function of the program's is called. -/
import Derived.Test.YtghiaobecppbeaaRxM
namespace Go.Rx
open Go Go.RowKit
set_option linter.unusedVariables false
set_option linter.unusedSimpArgs false

inductive Res where
  | ret (a : AV)
  | pan (a : AV)

abbrev Ic := FuncId → List AV → Hp → Option (Res × Hp)

structure Cfg where
  keep : FuncId → Nat → List Nat
  ownA : FuncId → List Nat
  ownR : FuncId → Bool
  ext : FuncId → Option (List AV → Hp → Option (Res × Hp)) := fun _ => none
  keepX : FuncId → Nat → Option (List Nat) := fun _ _ => none

def ROk (E : En) : Ending → Res → Prop
  | .returned v, .ret a => RV E v a
  | .panicked chain, .pan a => ∃ v, chain = [{ v, recovered := false }] ∧ RV E v a
  | _, _ => False

def rowOf : AObj → Option (Nat × Nat × List (List D))
  | .arr _ s v es => some (s, v, es)
  | .frz _ s v es => some (s, v, es)
  | .cells _ => none
/-- The rows among these names lie where they lay; of those that grow: if their version is 0. -/
def Pin (N : Nm → Prop) (E E' : En) : Prop := ∀ o, N o → (∀ cs, E.H.get o = some (.cells cs) → ∃ cs', E'.H.get o = some (.cells cs') ∧ E'.φ o = E.φ o) ∧
  ∀ x r, E.H.get o = some x → rowOf x = some r → ∃ x' r', E'.H.get o = some x' ∧ rowOf x' = some r' ∧ (r'.2.1 = 0 → r.2.1 = 0 ∧ r'.1 = r.1 ∧ E'.φ o = E.φ o ∧ r.2.2.length ≤ r'.2.2.length)
theorem Pin.refl (N : Nm → Prop) (E : En) : Pin N E E := fun o _ => ⟨fun cs h => ⟨cs, h, rfl⟩, fun x r hx hr => ⟨x, r, hx, hr, fun h => ⟨h, rfl, rfl, Nat.le_refl _⟩⟩⟩
theorem Pin.trans {N : Nm → Prop} {E E' E'' : En} (h : Pin N E E') (k : Pin N E' E'') : Pin N E E'' := fun o ho => by
  refine ⟨fun cs hg => ?_, fun x r hx hr => ?_⟩
  · obtain ⟨cs', h1, h2⟩ := (h o ho).1 cs hg
    obtain ⟨cs'', k1, k2⟩ := (k o ho).1 cs' h1
    exact ⟨cs'', k1, k2.trans h2⟩
  · obtain ⟨x', r', h1, h2, h3⟩ := (h o ho).2 x r hx hr
    obtain ⟨x'', r'', k1, k2, k3⟩ := (k o ho).2 x' r' h1 h2
    refine ⟨x'', r'', k1, k2, fun h0 => ?_⟩
    obtain ⟨a1, a2, a3, a4⟩ := k3 h0
    obtain ⟨b1, b2, b3, b4⟩ := h3 a1
    exact ⟨b1, a2.trans b2, a3.trans b3, Nat.le_trans b4 a4⟩
theorem Fit.pin {E E' : En} (h : Fit E E') (N : Nm → Prop) : Pin N E E' := fun o _ => by
  refine ⟨fun cs hg => ?_, fun x r hg hr => ?_⟩
  · obtain ⟨x', h1, h2⟩ := h.hm o _ hg
    cases x' with
    | cells cs' => exact ⟨cs', h1, h2⟩
    | arr => exact h2.elim
    | frz => exact h2.elim
  · obtain ⟨x', h1, h2⟩ := h.hm o _ hg
    have key : ∀ s v es s' v' es', r = (s, v, es) → rowOf x' = some (s', v', es') → (v ≤ v' ∧ (v = v' → s' = s ∧ E'.φ o = E.φ o ∧ es.length ≤ es'.length)) →
        ∃ x' r', E'.H.get o = some x' ∧ rowOf x' = some r' ∧ (r'.2.1 = 0 → r.2.1 = 0 ∧ r'.1 = r.1 ∧ E'.φ o = E.φ o ∧ r.2.2.length ≤ r'.2.2.length) := fun s v es s' v' es' e1 e2 ⟨c1, c2⟩ => by
      subst e1
      refine ⟨x', _, h1, e2, fun h0 => ?_⟩
      have h0' : v' = 0 := h0
      have hv : v = 0 := by omega
      obtain ⟨d1, d2, d3⟩ := c2 (by omega)
      exact ⟨hv, d1, d2, d3⟩
    cases x with
    | cells cs => cases hr
    | arr e s v es =>
      injection hr with hr
      cases x' with
      | cells cs => exact h2.elim
      | arr e' s' v' es' => exact key _ _ _ _ _ _ hr.symm rfl h2
      | frz e' s' v' es' => exact key _ _ _ _ _ _ hr.symm rfl h2
    | frz e s v es =>
      injection hr with hr
      cases x' with
      | cells cs => exact h2.elim
      | arr e' s' v' es' => exact h2.elim
      | frz e' s' v' es' => exact key _ _ _ _ _ _ hr.symm rfl h2

def ArgsOk (E : En) (vs : List Value) (args : List AV) : Prop := vs.length = args.length ∧ ∀ (i : Nat) (v : Value) (a : AV), vs[i]? = some v → args[i]? = some a → RV E v a

def FnOk (P : Program) (f : FuncId) (g : List AV → Hp → Option (Res × Hp)) : Prop := ∀ args H res H', g args H = some (res, H') → ∀ (E : En) (vs : List Value), Inv E → E.H = H → ArgsOk E vs args →
  Calls P f vs.toArray E.w (fun e w' => ∃ E', E'.w = w' ∧ Inv E' ∧ E'.H = H' ∧ Step E E' ∧ ROk E' e res ∧ Pin (fun _ => True) E E')
def IcOk (P : Program) (ic : Ic) : Prop := ∀ f args H res H', ic f args H = some (res, H') → ∀ (E : En) (vs : List Value), Inv E → E.H = H → ArgsOk E vs args →
  Calls P f vs.toArray E.w (fun e w' => ∃ E', E'.w = w' ∧ Inv E' ∧ E'.H = H' ∧ Step E E' ∧ ROk E' e res ∧ Pin (fun _ => True) E E')

/-- A value is handed on as plain data. -/
def sealC (H : Hp) (a : AV) : AV × Hp :=
  match a with
  | .nilsl => (.d (.list []), H)
  | .own o ver n => match seal1 H (.own o ver n) with
    | some x => (.d x.1, x.2)
    | none => (a, H)
  | a => (a, H)
def sealCs : Hp → List AV → List AV × Hp
  | H, [] => ([], H)
  | H, a :: r => ((sealC H a).1 :: (sealCs (sealC H a).2 r).1, (sealCs (sealC H a).2 r).2)
def sealV (H : Hp) (a : AV) : AV × Hp :=
  match a with
  | .agg vs => (.agg (sealCs H vs).1, (sealCs H vs).2)
  | a => sealC H a
def sealArgs (own : List Nat) : Nat → Hp → List AV → List AV × Hp
  | _, H, [] => ([], H)
  | i, H, a :: r => if own.contains i then (a :: (sealArgs own (i + 1) H r).1, (sealArgs own (i + 1) H r).2)
    else ((sealV H a).1 :: (sealArgs own (i + 1) (sealV H a).2 r).1, (sealArgs own (i + 1) (sealV H a).2 r).2)

theorem sealC_ok {E : En} (I : Inv E) {v : Value} {a : AV} (h : RV E v a) : ∃ E', E'.w = E.w ∧ E'.H = (sealC E.H a).2 ∧ Inv E' ∧ Step E E' ∧ Fit E E' ∧ RV E' v (sealC E.H a).1 := by
  cases a <;> first
    | exact ⟨E, rfl, rfl, I, .refl E, .refl E, h⟩
    | skip
  · cases h; exact ⟨E, rfl, rfl, I, .refl E, .refl E, .d _ _ (.empty _ _ (by unfold maxLen; omega))⟩
  · rename_i o ver n
    simp only [sealC]
    cases hs : seal1 E.H (.own o ver n) with
    | none => exact ⟨E, rfl, rfl, I, .refl E, .refl E, h⟩
    | some x =>
      obtain ⟨E', h1, h2, h3, h4, h5, h6⟩ := seal1_ok (x := x.1) (H' := x.2) I h hs
      exact ⟨E', h1, h2, h3, h4, h5, .d _ _ h6⟩
theorem sealCs_ok {E : En} (I : Inv E) {vs : List Value} {as : List AV} (h : ArgsOk E vs as) : ∃ E', E'.w = E.w ∧ E'.H = (sealCs E.H as).2 ∧ Inv E' ∧ Step E E' ∧ Fit E E' ∧ ArgsOk E' vs (sealCs E.H as).1 := by
  induction as generalizing E vs with
  | nil => exact ⟨E, rfl, rfl, I, .refl E, .refl E, h⟩
  | cons a r ih =>
    obtain ⟨hl, hr⟩ := h
    cases vs with
    | nil => simp at hl
    | cons v vs =>
      obtain ⟨E1, a1, a2, a3, a4, a5, a6⟩ := sealC_ok I (hr 0 v a rfl rfl)
      obtain ⟨E2, b1, b2, b3, b4, b5, b6⟩ := ih a3 (vs := vs) ⟨by simpa using hl, fun i v a hv ha => (hr (i + 1) v a hv ha).mono a5⟩
      simp only [sealCs]
      rw [a2] at b2 b6
      refine ⟨E2, b1.trans a1, b2, b3, a4.trans a3 b4, a5.trans b5, by simp [b6.1], fun i w b hw hb => ?_⟩
      cases i with
      | zero => simp at hw hb; subst hw hb; exact a6.mono b5
      | succ i => exact b6.2 i w b (by simpa using hw) (by simpa using hb)
theorem sealV_ok {E : En} (I : Inv E) {v : Value} {a : AV} (h : RV E v a) : ∃ E', E'.w = E.w ∧ E'.H = (sealV E.H a).2 ∧ Inv E' ∧ Step E E' ∧ Fit E E' ∧ RV E' v (sealV E.H a).1 := by
  cases a <;> first
    | exact sealC_ok I h
    | skip
  cases h with
  | agg cs vs hl h1 hr =>
  obtain ⟨E', a1, a2, a3, a4, a5, a6⟩ := sealCs_ok I ⟨hl, hr⟩
  exact ⟨E', a1, a2, a3, a4, a5, .agg cs _ a6.1 h1 a6.2⟩
theorem sealArgs_ok {own : List Nat} {E : En} (I : Inv E) {vs : List Value} {as : List AV} (i : Nat) (h : ArgsOk E vs as) : ∃ E', E'.w = E.w ∧ E'.H = (sealArgs own i E.H as).2 ∧ Inv E' ∧ Step E E' ∧ Fit E E' ∧ ArgsOk E' vs (sealArgs own i E.H as).1 := by
  induction as generalizing E vs i with
  | nil => exact ⟨E, rfl, rfl, I, .refl E, .refl E, h⟩
  | cons a r ih =>
    obtain ⟨hl, hr⟩ := h
    cases vs with
    | nil => simp at hl
    | cons v vs =>
      simp only [sealArgs]
      split
      · obtain ⟨E2, b1, b2, b3, b4, b5, b6⟩ := ih I (vs := vs) (i + 1) ⟨by simpa using hl, fun i v a hv ha => hr (i + 1) v a hv ha⟩
        refine ⟨E2, b1, b2, b3, b4, b5, by simp [b6.1], fun i w b hw hb => ?_⟩
        cases i with
        | zero => simp at hw hb; subst hw hb; exact (hr 0 v a rfl rfl).mono b5
        | succ i => exact b6.2 i w b (by simpa using hw) (by simpa using hb)
      · obtain ⟨E1, a1, a2, a3, a4, a5, a6⟩ := sealV_ok I (hr 0 v a rfl rfl)
        obtain ⟨E2, b1, b2, b3, b4, b5, b6⟩ := ih a3 (vs := vs) (i + 1) ⟨by simpa using hl, fun i v a hv ha => (hr (i + 1) v a hv ha).mono a5⟩
        rw [a2] at b2 b6
        refine ⟨E2, b1.trans a1, b2, b3, a4.trans a3 b4, a5.trans b5, by simp [b6.1], fun i w b hw hb => ?_⟩
        cases i with
        | zero => simp at hw hb; subst hw hb; exact a6.mono b5
        | succ i => exact b6.2 i w b (by simpa using hw) (by simpa using hb)

/-- The handles in a value that stands at a place, with the names by that place. -/
def hd1 (p : Nm) : AV → List (Nm × Nm)
  | .own o _ _ => [(o, p)]
  | .ptr o _ => [(o, p)]
  | .eptr o _ _ _ => [(o, p)]
  | _ => []
def hdL (p : Nm) : Nat → List AV → List (Nm × Nm)
  | _, [] => []
  | k, a :: r => hd1 (.cell p k) a ++ hdL p (k + 1) r
def hds (p : Nm) : AV → List (Nm × Nm)
  | .agg vs => hdL p 0 vs
  | .tuple vs => hdL p 0 vs
  | .fn _ vs => hdL p 0 vs
  | .iface _ (.agg vs) => hdL p 0 vs
  | a => hd1 p a
def hdArgs (mk : Nat → Nm) : Nat → List AV → List (Nm × Nm)
  | _, [] => []
  | i, a :: r => hds (mk i) a ++ hdArgs mk (i + 1) r
/-- What is come to from there: old name, new name. -/
def gather (H : Hp) : Nat → List (Nm × Nm) → List (Nm × Nm) → List (Nm × Nm)
  | 0, _, seen => seen
  | _, [], seen => seen
  | k + 1, (o, p) :: todo, seen => if seen.any (fun x => decide (x.1 = o)) then gather H k todo seen else
    match H.get o with
    | some (.cells cs) => gather H k (todo ++ hdL p 0 cs) (seen ++ [(o, p)])
    | some _ => gather H k todo (seen ++ [(o, p)])
    | none => gather H k todo seen

def gArgs (H : Hp) (args : List AV) : Gm := (gather H 200 (hdArgs .arg 0 args) []).map fun x => (x.1, (x.2, 0))

/-- The way back: a name of the callee's, in the caller's. -/
def backNm (g : Gm) (dst : Nat) : Nm → Nm
  | .res i => .cell (.res dst) i
  | .cell p k => match g.back p with
    | some o => .cell o k
    | none => .cell p k
  | p => p
def ver0 : Option AObj → Bool
  | some (.arr _ _ v _) => v == 0
  | some (.frz _ _ v _) => v == 0
  | _ => false
def newVer (H : Hp) (y : Option AObj) (o : Nm) : Nat :=
  match H.get o with
  | some (.arr _ _ v _) => if ver0 y then v else v + 1
  | some (.frz _ _ v _) => if ver0 y then v else v + 1
  | _ => 0
def gBack (g : Gm) (dst : Nat) (H1 H3 : Hp) : Gm := H3.map fun x => match g.back x.1 with
  | some o => (x.1, (o, newVer H1 (H3.get x.1) o))
  | none => (x.1, (backNm g dst x.1, 0))

def kindOk (x : AObj) (y : Option AObj) : Bool :=
  match x, y with
  | .cells _, some (.cells _) => true
  | .arr .., some (.arr ..) => true
  | .arr .., some (.frz ..) => true
  | .frz .., some (.frz ..) => true
  | _, _ => false
/-- All that was handed on has come back; what is new is new. -/
def backOk (g : Gm) (b : Gm) (H1 H3 : Hp) : Bool :=
  b.ok && (g.all fun x => decide (b.get x.2.1 = some (x.1, newVer H1 (H3.get x.2.1) x.1)) && (match H1.get x.1 with
    | some y => kindOk y (H3.get x.2.1)
    | none => false)) && (b.all fun x => (g.back x.1).isSome || (H1.get x.2.1).isNone) && (b.all fun x => match g.back x.1 with
    | some o => decide (x.2.1 = o)
    | none => true)

def dropP (g : Gm) (H : Hp) : Hp := H.filter fun x => (g.get x.1).isNone
theorem dropP_get (g : Gm) (H : Hp) (o : Nm) : (dropP g H).get o = if (g.get o).isNone then H.get o else none := by
  induction H with
  | nil => simp [dropP, Hp.get]
  | cons x r ih =>
    obtain ⟨p, y⟩ := x
    unfold dropP at ih ⊢
    rw [List.filter_cons]
    split
    · rename_i hp
      simp only [Hp.get_cons, ih]
      split
      · rename_i he; subst he; simp only [hp, if_true]
      · rfl
    · rename_i hp
      rw [ih]
      simp only [Hp.get_cons]
      by_cases he : (g.get o).isNone = true
      · rw [if_pos he, if_pos he, if_neg (fun h2 : p = o => hp (by subst h2; exact he))]
      · rw [if_neg he, if_neg he]
theorem Hp.get_append (A B : Hp) (o : Nm) : Hp.get (A ++ B) o = match A.get o with | some x => some x | none => B.get o := by
  induction A with
  | nil => rfl
  | cons x r ih =>
    obtain ⟨p, y⟩ := x
    simp only [List.cons_append, Hp.get_cons]
    split
    · rfl
    · exact ih

def mapRes (f : AV → AV) : Res → Res
  | .ret a => .ret (f a)
  | .pan a => .pan (f a)

def callA (cfg : Cfg) (ic : Ic) (dst : Nat) (f : FuncId) (args : List AV) (H : Hp) : Option (Res × Hp) :=
  let s := sealArgs (cfg.ownA f) 0 H args
  let g := gArgs s.2 s.1
  if g.ok then (ic f (renL g s.2 s.1) (renHp g s.2 g)).bind fun r =>
    let b := gBack g dst s.2 r.2
    if backOk g b s.2 r.2 then some (mapRes (ren b r.2) r.1, renHp b r.2 b ++ dropP g s.2) else none
  else none

/-- Back at the caller's. -/
theorem merge_ok {E1 E3 : En} {g b : Gm} (hg : g.ok = true) (I1 : Inv E1) (I3 : Inv E3) (S : Step (rehome g E1) E3) (hpin : Pin (fun _ => True) (rehome g E1) E3) (hb : backOk g b E1.H E3.H = true) :
    ∃ E4, E4.w = E3.w ∧ E4.H = renHp b E3.H b ++ dropP g E1.H ∧ Inv E4 ∧ Step E1 E4 ∧ Fit E1 E4 ∧ Hom b E3 E4 := by
  simp only [backOk, Bool.and_eq_true, List.all_eq_true] at hb
  obtain ⟨⟨⟨hbo, hall⟩, hfresh⟩, hsame⟩ := hb
  obtain ⟨gk, gn⟩ := Gm.ok_keys hg
  obtain ⟨bk, bn⟩ := Gm.ok_keys hbo
  obtain ⟨I2, S2⟩ := rehome_ok hg I1
  have homg := rehome_hom hg E1
  -- what was handed on
  have passed : ∀ o y, g.get o = some y → ∃ x z, y.2 = y.2 ∧ b.get y.1 = some (o, newVer E1.H (E3.H.get y.1) o) ∧ E1.H.get o = some x ∧ E3.H.get y.1 = some z ∧ kindOk x (some z) = true := fun o y ho => by
    have h1 := hall (o, y) (Gm.get_mem ho)
    simp only [decide_eq_true_eq] at h1
    obtain ⟨h1, h2⟩ := h1
    cases hx : E1.H.get o with
    | none => rw [hx] at h2; cases h2
    | some x =>
      rw [hx] at h2
      cases hz : E3.H.get y.1 with
      | none => simp only [hz] at h2; cases x <;> cases h2
      | some z => exact ⟨x, z, rfl, by rw [hz] at h1; exact h1, rfl, rfl, by simpa [hz] using h2⟩
  -- a new name is a handed-on one or a fresh one
  have news : ∀ p q nv, b.get p = some (q, nv) → (∃ nv', g.get q = some (p, nv')) ∨ E1.H.get q = none := fun p q nv hp => by
    have hm := Gm.get_mem hp
    have h1 := hfresh _ hm
    have h2 := hsame _ hm
    simp only [] at h1 h2
    cases hbk : g.back p with
    | none => rw [hbk] at h1; simp at h1; exact .inr h1
    | some o =>
      rw [hbk] at h2
      simp at h2
      subst h2
      refine .inl ?_
      clear h1 hall hfresh hsame passed
      have key : ∀ (l : Gm) (o' : Nm), l.back p = some o' → ∃ nv', (o', (p, nv')) ∈ l := fun l => by
        induction l with
        | nil => intro o' h; cases h
        | cons x r ih =>
          intro o' h
          obtain ⟨a, y⟩ := x
          simp only [Gm.back] at h
          split at h
          · rename_i he; injection h with h; subst h; exact ⟨y.2, by rw [← he]; simp⟩
          · obtain ⟨nv', h'⟩ := ih o' h; exact ⟨nv', List.mem_cons_of_mem _ h'⟩
      obtain ⟨nv', hm'⟩ := key g q hbk
      exact ⟨nv', Gm.mem_get gk hm'⟩
  let φ4 : Nm → Nat × Nat := fun q => match b.back q with
    | some p => E3.φ p
    | none => E1.φ q
  let E4 : En := ⟨E3.w, E3.S, φ4, renHp b E3.H b ++ dropP g E1.H⟩
  -- where an object of the caller's comes from
  have from' : ∀ q x', E4.H.get q = some x' → (∃ p nv x, b.get p = some (q, nv) ∧ E3.H.get p = some x ∧ x' = renO b E3.H nv x ∧ φ4 q = E3.φ p) ∨ (g.get q = none ∧ E1.H.get q = some x' ∧ φ4 q = E1.φ q) := fun q x' hq => by
    have hq' : Hp.get (renHp b E3.H b ++ dropP g E1.H) q = some x' := hq
    rw [Hp.get_append] at hq'
    cases hm : (renHp b E3.H b).get q with
    | some y =>
      rw [hm] at hq'
      injection hq' with hq'
      subst hq'
      obtain ⟨p, nv, x, h1, h2, h3⟩ := (renHp_get b E3.H b bn q _).1 hm
      refine .inl ⟨p, nv, x, Gm.mem_get bk h1, h2, h3, ?_⟩
      show (match b.back q with | some p => E3.φ p | none => E1.φ q) = _
      rw [Gm.back_mem bn h1]
    | none =>
      rw [hm] at hq'
      simp only [dropP_get] at hq'
      split at hq'
      · rename_i hgq
        have hgq' : g.get q = none := by simpa using hgq
        refine .inr ⟨hgq', hq', ?_⟩
        show (match b.back q with | some p => E3.φ p | none => E1.φ q) = _
        cases hbq : b.back q with
        | none => rfl
        | some p =>
          exfalso
          have key : ∀ (l : Gm) (p' : Nm), l.back q = some p' → ∃ nv', (p', (q, nv')) ∈ l := fun l => by
            induction l with
            | nil => intro o' h; cases h
            | cons x r ih =>
              intro o' h
              obtain ⟨a, y⟩ := x
              simp only [Gm.back] at h
              split at h
              · rename_i he; injection h with h; subst h; exact ⟨y.2, by rw [← he]; simp⟩
              · obtain ⟨nv', h'⟩ := ih o' h; exact ⟨nv', List.mem_cons_of_mem _ h'⟩
          obtain ⟨nv', hm'⟩ := key b p hbq
          rcases news p q nv' (Gm.mem_get bk hm') with ⟨nv2, h⟩ | h
          · rw [hgq'] at h; cases h
          · rw [hq'] at h; cases h
      · cases hq'
  have hom : Hom b E3 E4 := by
    refine ⟨fun b hb => ⟨hb, rfl⟩, fun p y x hp hx => ⟨?_, ?_⟩⟩
    · show Hp.get (renHp b E3.H b ++ dropP g E1.H) y.1 = _
      rw [Hp.get_append, (renHp_get b E3.H b bn y.1 _).2 ⟨p, y.2, x, Gm.get_mem hp, hx, rfl⟩]
    · show (match b.back y.1 with | some p => E3.φ p | none => E1.φ y.1) = _
      rw [Gm.back_mem bn (Gm.get_mem hp : (p, (y.1, y.2)) ∈ b)]
  -- the rest of the caller's is as it was
  have owns2 : ∀ blk, Owns (rehome g E1) blk → ∃ o y x, g.get o = some y ∧ E1.H.get o = some x ∧ x.live = true ∧ (E1.φ o).1 = blk := fun blk ⟨p, x', hp, hx, hb⟩ => by
    obtain ⟨o, nv, x, h1, h2, rfl, h3⟩ := rehome_src hg hp
    rw [renO_live] at hx
    exact ⟨o, _, x, h1, h2, hx, by rw [← h3]; exact hb⟩
  have restblk : ∀ q x, g.get q = none → E1.H.get q = some x → E3.w.heap[(E1.φ q).1]? = E1.w.heap[(E1.φ q).1]? := fun q x hq hx => by
    refine S.keep _ (I1.obj q x hx).lt (fun ho => ?_)
    obtain ⟨o, y, z, h1, h2, h3, h4⟩ := owns2 _ ho
    cases hl : x.live with
    | true =>
      have := I1.dist o q z x h2 hx h3 hl h4
      subst this
      rw [hq] at h1; cases h1
    | false =>
      cases x with
      | frz e s v es =>
        obtain ⟨h0, _⟩ := I1.obj q _ hx
        exact I1.free o z h2 h3 (h4 ▸ h0)
      | cells cs => cases hl
      | arr e s v es => cases hl
  have st1 : ∀ blk, E1.S blk → E3.S blk ∧ E3.w.heap[blk]? = E1.w.heap[blk]? := fun blk hS => Step.st I2 S blk hS
  have fit : Fit E1 E4 := by
    refine ⟨st1, fun o x hx => ?_⟩
    cases hgo : g.get o with
    | none =>
      refine ⟨x, ?_, ?_⟩
      · show Hp.get (renHp b E3.H b ++ dropP g E1.H) o = some x
        rw [Hp.get_append]
        cases hm : (renHp b E3.H b).get o with
        | none => simp only [dropP_get, hgo]; simpa using hx
        | some y =>
          exfalso
          obtain ⟨p, nv, z, h1, h2, h3⟩ := (renHp_get b E3.H b bn o _).1 hm
          rcases news p o nv (Gm.mem_get bk h1) with ⟨nv2, h⟩ | h
          · rw [hgo] at h; cases h
          · rw [hx] at h; cases h
      · rcases from' o x (by
          show Hp.get (renHp b E3.H b ++ dropP g E1.H) o = some x
          rw [Hp.get_append]
          cases hm : (renHp b E3.H b).get o with
          | none => simp only [dropP_get, hgo]; simpa using hx
          | some y =>
            exfalso
            obtain ⟨p, nv, z, h1, h2, h3⟩ := (renHp_get b E3.H b bn o _).1 hm
            rcases news p o nv (Gm.mem_get bk h1) with ⟨nv2, h⟩ | h
            · rw [hgo] at h; cases h
            · rw [hx] at h; cases h) with ⟨p, nv, z, h1, h2, h3, h4⟩ | ⟨h1, h2, h3⟩
        · exfalso
          rcases news p o nv h1 with ⟨nv2, h⟩ | h
          · rw [hgo] at h; cases h
          · rw [hx] at h; cases h
        · exact Compat.self h3 x
    | some y =>
      obtain ⟨x1, z, _, h1, h2, h3, h4⟩ := passed o y hgo
      rw [hx] at h2
      injection h2 with h2
      subst h2
      obtain ⟨k1, k2⟩ := hom.obj y.1 _ z h1 h3
      refine ⟨_, k1, ?_⟩
      cases x with
      | cells cs =>
        cases z with
        | cells cs' =>
          obtain ⟨r1, r2⟩ := homg.obj o y _ hgo hx
          obtain ⟨cs'', p1, p2⟩ := (hpin y.1 trivial).1 _ r1
          show E4.φ o = E1.φ o
          rw [k2, p2, r2]
        | arr => cases h4
        | frz => cases h4
      | arr e s v es =>
        obtain ⟨r1, r2⟩ := homg.obj o y _ hgo hx
        obtain ⟨x'', r', p1, p2, p3⟩ := (hpin y.1 trivial).2 _ _ r1 rfl
        rw [h3] at p1
        injection p1 with p1
        subst p1
        have hnv : newVer E1.H (E3.H.get y.1) o = if ver0 (some z) then v else v + 1 := by simp [newVer, hx, h3]
        have hφ : E4.φ o = E3.φ y.1 := k2
        cases z with
        | cells => cases h4
        | arr e' s' v' es' =>
          injection p2 with p2
          subst p2
          refine ⟨by rw [hnv]; split <;> omega, fun h => ?_⟩
          rw [hnv] at h
          split at h
          · rename_i hv
            obtain ⟨q1, q2, q3, q4⟩ := p3 (by simpa [ver0] using hv)
            exact ⟨q2, by rw [hφ, q3, r2], q4⟩
          · omega
        | frz e' s' v' es' =>
          injection p2 with p2
          subst p2
          refine ⟨by rw [hnv]; split <;> omega, fun h => ?_⟩
          rw [hnv] at h
          split at h
          · rename_i hv
            obtain ⟨q1, q2, q3, q4⟩ := p3 (by simpa [ver0] using hv)
            exact ⟨q2, by rw [hφ, q3, r2], q4⟩
          · omega
      | frz e s v es =>
        obtain ⟨r1, r2⟩ := homg.obj o y _ hgo hx
        obtain ⟨x'', r', p1, p2, p3⟩ := (hpin y.1 trivial).2 _ _ r1 rfl
        rw [h3] at p1
        injection p1 with p1
        subst p1
        have hnv : newVer E1.H (E3.H.get y.1) o = if ver0 (some z) then v else v + 1 := by simp [newVer, hx, h3]
        have hφ : E4.φ o = E3.φ y.1 := k2
        cases z with
        | cells => cases h4
        | arr => cases h4
        | frz e' s' v' es' =>
          injection p2 with p2
          subst p2
          refine ⟨by rw [hnv]; split <;> omega, fun h => ?_⟩
          rw [hnv] at h
          split at h
          · rename_i hv
            obtain ⟨q1, q2, q3, q4⟩ := p3 (by simpa [ver0] using hv)
            exact ⟨q2, by rw [hφ, q3, r2], q4⟩
          · omega
  have restlive : ∀ q x, g.get q = none → E1.H.get q = some x → x.live = true → ¬ E3.S (E1.φ q).1 ∧ ¬ Owns E3 (E1.φ q).1 := fun q x hq hx hl => by
    have no2 : ¬ Owns (rehome g E1) (E1.φ q).1 := fun ho => by
      obtain ⟨o, y, z, h1, h2, h3, h4⟩ := owns2 _ ho
      have := I1.dist o q z x h2 hx h3 hl h4
      subst this
      rw [hq] at h1; cases h1
    have noS : ¬ E1.S (E1.φ q).1 := I1.free q x hx hl
    have hlt := (I1.obj q x hx).lt
    exact ⟨fun h => by rcases S.new _ (.inl h) hlt with h | h; · exact noS h
                       · exact no2 h,
           fun h => by rcases S.new _ (.inr h) hlt with h | h; · exact noS h
                       · exact no2 h⟩
  refine ⟨E4, rfl, rfl, ⟨fun q x' hq => ?_, fun q r x y hq hr hx hy hb => ?_, fun q x' hq hl => ?_, I3.sin⟩, ⟨S.os, S.tape, S.output, S.size, fun blk hlt hno => ?_, fun blk h => (st1 blk h).1, fun blk h hlt => ?_⟩, fit, hom⟩
  · rcases from' q x' hq with ⟨p, nv, x, h1, h2, rfl, h4⟩ | ⟨h1, h2, h3⟩
    · exact RO.hom hom (y := (q, nv)) h4 rfl (I3.obj p x h2)
    · exact (I1.obj q x' h2).mono fit h3 (restblk q x' h1 h2)
  · have hb' : (φ4 q).1 = (φ4 r).1 := hb
    rcases from' q x hq with ⟨p, nv, z, h1, h2, rfl, h4⟩ | ⟨h1, h2, h3⟩
    · rw [renO_live] at hx
      rcases from' r y hr with ⟨p', nv', z', h1', h2', rfl, h4'⟩ | ⟨h1', h2', h3'⟩
      · rw [renO_live] at hy
        have e : p = p' := I3.dist p p' z z' h2 h2' hx hy (by rw [← h4, ← h4']; exact hb')
        subst e
        rw [h1] at h1'
        injection h1' with h1'
        injection h1'
      · exact ((restlive r y h1' h2' hy).2 ⟨p, z, h2, hx, by rw [← h4, hb', h3']⟩).elim
    · rcases from' r y hr with ⟨p', nv', z', h1', h2', rfl, h4'⟩ | ⟨h1', h2', h3'⟩
      · rw [renO_live] at hy
        exact ((restlive q x h1 h2 hx).2 ⟨p', z', h2', hy, by rw [← h4', ← hb', h3]⟩).elim
      · exact I1.dist q r x y h2 h2' hx hy (by rw [← h3, ← h3']; exact hb')
  · show ¬ E3.S (φ4 q).1
    rcases from' q x' hq with ⟨p, nv, z, h1, h2, rfl, h4⟩ | ⟨h1, h2, h3⟩
    · rw [renO_live] at hl
      rw [h4]; exact I3.free p z h2 hl
    · rw [h3]; exact (restlive q x' h1 h2 hl).1
  · refine S.keep blk hlt (fun ho => hno ?_)
    obtain ⟨o, y, z, h1, h2, h3, h4⟩ := owns2 _ ho
    exact ⟨o, z, h2, h3, h4⟩
  · have key : E3.S blk ∨ Owns E3 blk → E1.S blk ∨ Owns E1 blk := fun h => by
      rcases S.new blk h hlt with h | h
      · exact .inl h
      · obtain ⟨o, y, z, h1, h2, h3, h4⟩ := owns2 _ h
        exact .inr ⟨o, z, h2, h3, h4⟩
    rcases h with h | ⟨q, x, hq, hx, hbq⟩
    · exact key (.inl h)
    · have hbq' : (φ4 q).1 = blk := hbq
      rcases from' q x hq with ⟨p, nv, z, h1, h2, rfl, h4⟩ | ⟨h1, h2, h3⟩
      · rw [renO_live] at hx
        exact key (.inr ⟨p, z, h2, hx, by rw [← h4]; exact hbq'⟩)
      · exact .inr ⟨q, x, h2, hx, by rw [← h3]; exact hbq'⟩

theorem callA_ok {P : Program} {cfg : Cfg} {ic : Ic} (hic : IcOk P ic) {E : En} (I : Inv E) {dst : Nat} {f : FuncId} {vs : List Value} {args : List AV} {res : Res} {H' : Hp} (ha : ArgsOk E vs args) (h : callA cfg ic dst f args E.H = some (res, H')) :
    Calls P f vs.toArray E.w (fun e w' => ∃ E', E'.w = w' ∧ Inv E' ∧ E'.H = H' ∧ Step E E' ∧ Fit E E' ∧ ROk E' e res) := by
  unfold callA at h
  simp only [] at h
  obtain ⟨E1, w1, e1, I1, S1, F1, A1⟩ := sealArgs_ok (own := cfg.ownA f) I 0 ha
  rw [← e1] at h
  split at h
  · rename_i hg
    simp only [Option.bind_eq_some_iff] at h
    obtain ⟨⟨r, H3⟩, hr, h⟩ := h
    split at h
    · rename_i hb
      injection h with h
      injection h with h1 h2
      subst h1 h2
      obtain ⟨I2, S2⟩ := rehome_ok hg I1
      have homg := rehome_hom hg E1
      have hcall := hic f _ _ r H3 hr (rehome (gArgs E1.H (sealArgs (cfg.ownA f) 0 E.H args).1) E1) vs I2 rfl ⟨by rw [renL_eq]; simpa using A1.1, fun i v a hv ha' => by
        rw [renL_eq, List.getElem?_map, Option.map_eq_some_iff] at ha'
        obtain ⟨c, hc, rfl⟩ := ha'
        exact (A1.2 i v c hv hc).hom homg⟩
      rw [show (rehome (gArgs E1.H (sealArgs (cfg.ownA f) 0 E.H args).1) E1).w = E.w from w1] at hcall
      refine hcall.mono ?_
      rintro e w' ⟨E3, rfl, I3, e3, S3, hres, hpin⟩
      subst e3
      obtain ⟨E4, a1, a2, a3, a4, a5, a6⟩ := merge_ok hg I1 I3 S3 hpin hb
      refine ⟨E4, a1, a3, a2, S1.trans I1 a4, F1.trans a5, ?_⟩
      cases e with
      | returned v =>
        cases r with
        | ret a => exact RV.hom a6 hres
        | pan a => exact hres.elim
      | panicked chain =>
        cases r with
        | ret a => exact hres.elim
        | pan a => obtain ⟨v, h1, h2⟩ := hres; exact ⟨v, h1, RV.hom a6 h2⟩
      | outgrown => cases r <;> exact hres.elim
    · cases h
  · cases h
end Go.Rx
