/- Rx, part 22: a row that grows, with open contents. -/
import Derived.Test.YtghiaobecppbeaaRxU
set_option linter.unusedVariables false
set_option linter.unusedSimpArgs false
namespace Go.Rx
open Go Go.RowKit
/-- Something is put behind a row that grows. -/
theorem aop_app {P : Program} {dst : Nat} {ρ : Operand → AV} {H : Hp} {c : Call} {s x : Operand} {t u e e' : TypeId} {i : TypeInfo} {z : Value} {o : Nm} {ver n : Nat} {es ds : List (List D)} (hcal : c.callee = .builtin .append) (hargs : c.args.toList = [s, x]) (hty : c.argTypes.toList = [t, u])
    (ht : P.underlying t = some (.slice e)) (hu : P.underlying u = some (.slice e')) (hi : P.info? e = some i) (hz : i.zero = some z) (hsz : z.cells.size = i.size) (hx : srcOf H (ρ x) = some ds) (hall : ds.all (fun y => y.length == i.size) = true)
    (hs : ρ s = .own o ver n) (ho : H.get o = some (.arr e i.size ver es)) (hl : (n + ds.length) * (i.bytes + 1) ≤ lim) :
    aop P dst ρ H (.call c) = some (.own o (ver + 1) (n + ds.length), (o, .arr e i.size (ver + 1) (es.take n ++ ds)) :: H) := by
  simp only [aop, hcal, hargs, hty, aAppend, ht, hu, hi, hz, hsz, hx, hall, hs, ho, Option.bind_some, if_true, true_and, and_self, if_pos hl]
end Go.Rx
namespace Go.Rx
open Go Go.RowKit
/-- A number, divided. -/
theorem aop_quo {P : Program} {dst : Nat} {ρ : Operand → AV} {H : Hp} {t u : TypeId} {x y : Operand} {k : IntKind} {a b : Int} (hx : ρ x = .d (.int k a)) (hy : ρ y = .d (.int k b)) (hb : b ≠ 0) :
    aop P dst ρ H (.binOp .quo t x y u) = some (.d (.int k (k.wrap (a.tdiv b))), H) := by
  simp only [aop, aBin, hx, hy, bInt, if_neg hb, if_true, Option.map_some]
  rfl
end Go.Rx
namespace Go.Rx
open Go Go.RowKit
section
variable {R : Type}
def forceNat (n : Nat) (K : Nat → R) : R :=
  match n with
  | 0 => K 0
  | n + 1 => K (n + 1)
theorem forceNat_eq (n : Nat) (K : Nat → R) : forceNat n K = K n := by cases n <;> rfl
/-- A value's names are laid open, too. -/
noncomputable def force1 (a : AV) (K : AV → R) : R := force a fun a => match a with
  | .ptr o n => forceNm o fun o => K (.ptr o n)
  | .own o v n => forceNm o fun o => forceNat v fun v => forceNat n fun n => K (.own o v n)
  | .eptr o v i n => forceNm o fun o => forceNat v fun v => K (.eptr o v i n)
  | a => K a
theorem force1_eq (a : AV) (K : AV → R) : force1 a K = K a := by
  unfold force1
  rw [force_eq]
  cases a <;> simp only [forceNm_eq, forceNat_eq]
noncomputable def force1L (l : List AV) : (List AV → R) → R :=
  List.rec (motive := fun _ => (List AV → R) → R) (fun K => K []) (fun a _ ih K => force1 a fun a => ih fun r => K (a :: r)) l
theorem force1L_eq : ∀ (l : List AV) (K : List AV → R), force1L l K = K l
  | [], K => rfl
  | a :: r, K => by
    show force1 a (fun a => force1L r fun r => K (a :: r)) = _
    simp only [force1_eq, force1L_eq r]
noncomputable def force2 (a : AV) (K : AV → R) : R := force1 a fun a => match a with
  | .agg vs => force1L vs fun vs => K (.agg vs)
  | .tuple vs => force1L vs fun vs => K (.tuple vs)
  | a => K a
theorem force2_eq (a : AV) (K : AV → R) : force2 a K = K a := by
  unfold force2
  rw [force1_eq]
  cases a <;> simp only [force1L_eq]
/-- A frame's values are laid open. -/
noncomputable def forceFr (l : Fr) : (Fr → R) → R :=
  List.rec (motive := fun _ => (Fr → R) → R) (fun K => K []) (fun p _ ih K => force2 p.2 fun v => ih fun r => K ((p.1, v) :: r)) l
theorem forceFr_eq : ∀ (l : Fr) (K : Fr → R), forceFr l K = K l
  | [], K => rfl
  | (t, v) :: r, K => by
    show force2 v (fun v => forceFr r fun r => K ((t, v) :: r)) = _
    simp only [force2_eq, forceFr_eq r]
noncomputable def forceO1 (x : AObj) (K : AObj → R) : R :=
  match x with
  | .cells cs => force1L cs fun cs => K (.cells cs)
  | .arr e s v es => forceNat v fun v => K (.arr e s v es)
  | .frz e s v es => forceNat v fun v => K (.frz e s v es)
theorem forceO1_eq (x : AObj) (K : AObj → R) : forceO1 x K = K x := by cases x <;> simp only [forceO1, forceNat_eq, force1L_eq]
noncomputable def forceHq (H : Hp) : (Hp → R) → R :=
  List.rec (motive := fun _ => (Hp → R) → R) (fun K => K []) (fun p _ ih K => forceNm p.1 fun o => forceO1 p.2 fun x => ih fun r => K ((o, x) :: r)) H
theorem forceHq_eq : ∀ (H : Hp) (K : Hp → R), forceHq H K = K H
  | [], K => rfl
  | (o, x) :: r, K => by
    show forceNm o (fun o => forceO1 x fun x => forceHq r fun r => K ((o, x) :: r)) = _
    simp only [forceNm_eq, forceO1_eq, forceHq_eq r]
noncomputable def exitF (pins : List Nm) (kx : Option (List Nat)) (r : Fx × St) (K : Fx × St → Option R) : Option R :=
  nextK (exitP pins kx r) fun r => forceFr r.2.fr fun fr => forceHq r.2.H fun H => K (r.1, ⟨fr, H⟩)
/-- A loop, round by round, for rows of known length. -/
noncomputable def loopF (P : Program) (cfg : Cfg) (ic : Ic) (lp : LP) (nt f : Nat) (pins : List Nm) (b : Code) : Nat → St → (Fx × St → Option R) → Option R
  | 0, _, _ => none
  | n + 1, st, K => nextK (prune pins (cfg.keep f ((keyOf b).getD 0)) st) fun s => forceFr s.fr fun fr => forceHq s.H fun H => codeK P cfg ic lp nt b ⟨fr, H⟩ fun r => match r.1 with
    | .norm => loopF P cfg ic lp nt f pins b n r.2 K
    | _ => exitF pins (cfg.keepX f ((keyOf b).getD 0)) r K
theorem loopF_eq {P : Program} {cfg : Cfg} {ic : Ic} {lp : LP} {nt f : Nat} {pins : List Nm} {b : Code} (K : Fx × St → Option R) : ∀ (n : Nat) (st : St),
    loopF P cfg ic lp nt f pins b n st K = loopK P cfg ic lp nt f pins b n st (fun r => nextK (exitP pins (cfg.keepX f ((keyOf b).getD 0)) r) K)
  | 0, st => rfl
  | n + 1, st => by
    simp only [loopF, loopK, forceFr_eq, forceHq_eq, exitF]
    congr 1; funext s
    congr 1; funext r
    obtain ⟨fx, s'⟩ := r
    cases fx <;> first | exact loopF_eq K n s' | rfl
theorem loop_goF {P : Program} {cfg : Cfg} {ic : Ic} {nt f lf : Nat} {pins : List Nm} {b : Code} {st : St} {K : Fx × St → Option R} {r : Option R} {lp : LP} (hl : lp = lpOf P cfg ic nt f lf pins)
    (h : loopF P cfg ic lp nt f pins b lf st K = r) : nextK (lp b st) K = r := loop_go hl (by rw [← h, loopF_eq])
end
end Go.Rx
namespace Go.Rx
open Go Go.RowKit
/-- An open end that is not looked at till it is asked for. -/
noncomputable def holdO {α : Type} (x : Option α) : Option α := Classical.choose (⟨x, rfl⟩ : ∃ y, y = x)
theorem holdO_eq {α : Type} (x : Option α) : holdO x = x := Classical.choose_spec (⟨x, rfl⟩ : ∃ y, y = x)
theorem holdO_of {α : Type} {x : Option α} {a : α} (h : x = some a) : holdO x = some a := by rw [holdO_eq, h]
def selE {R : Type} (E : Fx × St → (Fx × St → Option R) → Option R) (x : Fx) (A : St → (Fx × St → Option R) → Option R) : St → (Fx × St → Option R) → Option R := match x with
  | .norm => A
  | x => fun st K => E (x, st) K
/-- A loop, laid open round by round; each round's state is said. -/
noncomputable def loopE {R : Type} (P : Program) (cfg : Cfg) (ic : Ic) (lp : LP) (nt f : Nat) (pins : List Nm) (b : Code) : Nat → St → (Fx × St → Option R) → Option R
  | 0, _, _ => none
  | n + 1, st, K => nextK (holdO (prune pins (cfg.keep f ((keyOf b).getD 0)) st)) fun s => codeK P cfg ic lp nt b s fun r => selE (fun r => nextK (holdO (exitP pins (cfg.keepX f ((keyOf b).getD 0)) r))) r.1 (loopE P cfg ic lp nt f pins b n) r.2 K
theorem loopE_eq {R : Type} {P : Program} {cfg : Cfg} {ic : Ic} {lp : LP} {nt f : Nat} {pins : List Nm} {b : Code} (K : Fx × St → Option R) : ∀ (n : Nat) (st : St),
    loopE P cfg ic lp nt f pins b n st K = loopK P cfg ic lp nt f pins b n st (fun r => nextK (exitP pins (cfg.keepX f ((keyOf b).getD 0)) r) K)
  | 0, st => rfl
  | n + 1, st => by
    simp only [loopE, loopK, holdO_eq]
    congr 1; funext s
    congr 1; funext r
    obtain ⟨fx, s'⟩ := r
    cases fx <;> first | exact loopE_eq K n s' | rfl
theorem loop_goE {R : Type} {P : Program} {cfg : Cfg} {ic : Ic} {nt f lf : Nat} {pins : List Nm} {b : Code} {st : St} {K : Fx × St → Option R} {r : Option R} {lp : LP} (hl : lp = lpOf P cfg ic nt f lf pins)
    (h : loopE P cfg ic lp nt f pins b lf st K = r) : nextK (lp b st) K = r := loop_go hl (by rw [← h, loopE_eq])
end Go.Rx
