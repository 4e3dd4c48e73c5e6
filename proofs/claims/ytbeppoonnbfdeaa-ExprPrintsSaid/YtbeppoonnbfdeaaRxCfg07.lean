/- A part of the proof of the law: what functions of the program come to, walked by Rx, or plain facts on it. -/
import Derived.Test.YtbeppoonnbfdeaaRxJc
import Derived.Test.YtbeppoonnbfdeaaProg
import Derived.KernelRfl
open Go Go.Rx Go.Proofs
set_option maxRecDepth 1000000
set_option maxHeartbeats 4000000
set_option linter.unusedVariables false
set_option linter.unusedSimpArgs false
namespace Go.Rx07
def keepT : List ((Nat × Nat) × List Nat) := [((12, 4), [2, 3, 5]),
  ((18, 4), [2, 3, 36, 37]),
  ((19, 24), [0, 3, 4, 5, 6, 7]),
  ((19, 16), [0, 3, 4, 5, 6, 7]),
  ((19, 5), [0, 3, 4, 5]),
  ((21, 6), [0, 1, 2, 6, 7, 8]),
  ((23, 5), [0, 3, 4, 5]),
  ((24, 30), [0, 1, 4, 5, 6, 8, 9, 11, 13, 14]),
  ((24, 5), [0, 1, 4, 5, 6, 7, 8]),
  ((29, 20), [1, 82, 83, 84]),
  ((30, 6), [1, 2, 5]),
  ((36, 15), [0, 2, 6]),
  ((36, 5), [0, 2, 6]),
  ((40, 4), [0, 3, 4, 5]),
  ((41, 3), [1, 2, 3, 7, 8]),
  ((44, 3), [3, 4]),
  ((47, 2), [0, 7, 8, 9]),
  ((49, 3), [0, 3, 4]),
  ((51, 3), [0, 4, 5]),
  ((53, 4), [0, 3])]
def exitT : List ((Nat × Nat) × List Nat) := [((12, 4), [4]),
  ((18, 4), [4]),
  ((19, 24), [0, 3, 4, 5, 6, 7]),
  ((19, 16), [0, 2, 3, 4, 6, 7]),
  ((19, 5), [2, 3, 4]),
  ((21, 6), [6]),
  ((23, 5), [2, 3, 4]),
  ((24, 30), [0, 1, 4, 5, 6, 8, 9, 11, 13, 14]),
  ((24, 5), [1, 4, 5, 7]),
  ((29, 20), [4]),
  ((30, 6), [4]),
  ((36, 15), [0, 2, 6]),
  ((36, 5), [0, 2, 6]),
  ((40, 4), [3]),
  ((41, 3), [6, 7]),
  ((44, 3), [3]),
  ((47, 2), [0, 2]),
  ((49, 3), [2]),
  ((51, 3), [2, 3, 4]),
  ((53, 4), [2])]
def ownF (f : Nat) : Bool := false
def ownG (f : Nat) : Bool := false

/-- Settings for all that Parse reaches: no contract. -/
def P.cfg : Cfg := ⟨fun f k => (keepT.lookup (f, k)).getD [], fun f => [], ownG, fun _ => none, fun f k => exitT.lookup (f, k), true⟩
theorem hextP : ExtOk Try.prog P.cfg := fun f g h => by cases h
def sq1 : Code → Code
  | .seq a _ => a
  | c => c
def sq2 : Code → Code
  | .seq _ b => b
  | c => c
def rops : Code → Array Oper
  | .region _ o _ => o
  | _ => #[]
def cn1 : Code → Code
  | .cond _ a _ => a
  | c => c
noncomputable def B20 : Code := Try.f20.body.getD .skip
noncomputable def X20 : Code := cn1 (sq2 (sq2 B20))
noncomputable def oA : Array Oper := rops (sq1 B20)
noncomputable def oB : Array Oper := rops (sq1 (sq2 B20))
theorem body20 : Try.f20.body = some (.seq (.region 0 oA false) (.seq (.region 1 oB false) (.cond (.tmp 7) X20 .skip))) := by kernel_rfl
noncomputable def opR : Oper := oA[0]?.getD default
noncomputable def opS : Oper := oA[1]?.getD default
noncomputable def opM : Oper := oB[0]?.getD default
noncomputable def opN : Oper := oB[1]?.getD default
noncomputable def gN (x : Value) : Sem Next := do pure (Next.value (← (do eqGuard .neq 20 (.tmp 6) (.const .nilIface) x .nilIface; binOp .neq 20 x .nilIface)))
theorem xN (a : Act) : execOp a.eval opN = gN (a.eval (.tmp 6)) := by kernel_rfl
theorem recF : RecFn Try.prog 20 Try.f20 X20 opR opS opM opN oA oB 0 1 18 where
  hf := Try.func20
  hb := body20
  hA := by kernel_rfl
  hB := by kernel_rfl
  wR := by intro y; kernel_rfl
  wS := by intro y; kernel_rfl
  wM := by intro y; kernel_rfl
  wN := by intro y; kernel_rfl
  xR := by intro a W; kernel_rfl
  xS := by intro a W; kernel_rfl
  xM := by intro a W; kernel_rfl
  xN := by intro a W u v h; rw [xN, h]; kernel_rfl
  xN0 := by intro a W h; rw [xN, h]; kernel_rfl
  dR := by kernel_rfl
  dS := by kernel_rfl
  dM := by kernel_rfl
  dN := by kernel_rfl
  nt := by kernel_rfl
  n8 := by omega
  res := by kernel_rfl
/-- The closure of Parse, when it recovers. -/
noncomputable def icRec (k : Nat) : Ic := fun _ args H => match args with
  | [p0, p1, .iface t x] => (runCode Try.prog P.cfg (icall Try.prog P.cfg k) 18 20 k (H.map (·.1)) X20 ⟨[(0, p0), (1, p1), (2, .iface t x)], H⟩).bind fun r => match r.1 with
    | .norm => finish Try.prog false Try.f20 (H.map (·.1)) (.norm, r.2)
    | _ => none
  | _ => none
theorem hrec (k : Nat) : ∀ args H res H', icRec k 20 args H = some (res, H') → ∀ (E : En) (vs : List Value), Inv E → E.H = H → ArgsOk E vs args → JRec Try.prog 20 vs E.w (fun e w' => ∃ E', E'.w = w' ∧ Inv E' ∧ E'.H = H' ∧ Step E E' ∧ ROk E' e res ∧ Pin (fun _ => True) E E') := by
  intro args H res H' h E vs I hH hargs c0 c1 v hvs
  subst hvs hH
  unfold icRec at h
  split at h
  · rename_i p0 p1 t x
    simp only [Option.bind_eq_some_iff] at h
    obtain ⟨⟨fx, st'⟩, hrun, hfin⟩ := h
    have hv := hargs.2 2 v (.iface t x) rfl rfl
    obtain ⟨v', hv'⟩ : ∃ v', v = .iface t v' := by cases hv; exact ⟨_, rfl⟩
    refine rec_run recF c0 c1 v t v' hv' E.w _ (fun cf cs a hsz hdf hev => ?_)
    have R : SR 18 [] E a ⟨[(0, p0), (1, p1), (2, .iface t x)], E.H⟩ := by
      refine ⟨⟨fun q => ?_⟩, hsz, hdf, rfl, I⟩
      have hq : a.tmps.getD q undef = a.eval (.tmp q) := rfl
      simp only [Fr.get]
      rw [hq, hev q]
      by_cases h0 : q = 0
      · subst h0; simp only [if_true]; exact hargs.2 0 _ _ rfl rfl
      · by_cases h1 : q = 1
        · subst h1; simp only [if_true]; exact hargs.2 1 _ _ rfl rfl
        · by_cases h2 : q = 2
          · subst h2; simp only [if_true]; exact hv
          · have k0 : ¬ (0 = q) := fun e => h0 e.symm
            have k1 : ¬ (1 = q) := fun e => h1 e.symm
            have k2 : ¬ (2 = q) := fun e => h2 e.symm
            simp only [if_neg h0, if_neg h1, if_neg h2, if_neg k0, if_neg k1, if_neg k2]; exact .undef _
    refine wp_mono (runCode_ok (icall_ok hextP k) X20 E a _ fx st' R hrun) (fun e a' w' hp => ?_)
    obtain ⟨E', rfl, R', S', P', M'⟩ := hp
    cases fx with
    | ret => cases hfin
    | exit i => cases hfin
    | pan b => cases hfin
    | norm =>
      cases e <;> try exact M'.elim
      simp only [finish, Option.bind_eq_some_iff, Option.map_eq_some_iff] at hfin
      obtain ⟨r, hr, y, hy, he⟩ := hfin
      injection he with e1 e2
      subst e1 e2
      obtain ⟨vv, hvv, hvr⟩ := resA_ok R' hr
      rw [← R'.H] at hy
      obtain ⟨E2, b1, b2, b3, b4, b5, b6⟩ := finR_ok R'.I hvr hy
      refine ⟨R'.df, .panicking [{ v, recovered := true }], rfl, vv, hvv, rfl, E2, b1, b3, b2, S'.trans R'.I b4, b6, fun o _ => ?_⟩
      exact ⟨fun cs hg => ((P'.trans b5) o (Hp.get_name hg)).1 cs hg, fun x r hg => ((P'.trans b5) o (Hp.get_name hg)).2 x r hg⟩
  · cases h
noncomputable def B10 : Code := Try.f10.body.getD .skip
noncomputable def xs10 : List Code := [sq1 B10, sq1 (sq2 B10), sq1 (sq2 (sq2 B10))]
noncomputable def oD : Array Oper := rops (sq1 (sq2 (sq2 (sq2 B10))))
noncomputable def rest10 : Code := sq2 (sq2 (sq2 (sq2 B10)))
noncomputable def opF : Oper := oD[0]?.getD default
noncomputable def opD : Oper := oD[1]?.getD default
noncomputable def callD : Call := match opD.op with
  | .defer c => c
  | _ => default
theorem body10 : Try.f10.body = some (seqs xs10 (.seq (.region 4 oD false) rest10)) := by kernel_rfl
/-- Parse, with so much fuel. -/
noncomputable def parseK (k : Nat) : List AV → Hp → Option (Res × Hp) := icDef Try.prog P.cfg (icall Try.prog P.cfg k) (icRec k) Try.f10 10 20 k xs10 rest10 opF 17
theorem parseK_ok (k : Nat) : FnOk Try.prog 10 (parseK k) :=
  def_ok (icall_ok hextP k) Try.func10 body10 (by kernel_rfl : oD.toList = [opF, opD]) (by intro fr; kernel_rfl) (by intro fr; kernel_rfl) (by kernel_rfl) (by kernel_rfl : opD.op = .defer callD) (by kernel_rfl) (by kernel_rfl) (by kernel_rfl)
    Try.func20 body20 (by kernel_rfl) (hrec k) (fun c0 c1 w => rec_none recF c0 c1 w)
/-- A text's Parse: as much fuel as it may need. -/
noncomputable def parseX (args : List AV) (H : Hp) : Option (Res × Hp) := match args with
  | [.d (.str s)] => parseK (6000 * s.length + 1000) [.d (.str s)] H
  | _ => none
theorem parseX_ok : FnOk Try.prog 10 parseX := by
  intro args H res H' h
  unfold parseX at h
  split at h
  · exact parseK_ok _ _ _ _ _ h
  · cases h
noncomputable def cfg0 : Cfg := ⟨fun f k => (keepT.lookup (f, k)).getD [], fun f => [], ownG, fun f => if f = 10 then some parseX else none, fun _ _ => none, false⟩
theorem hext0 : ExtOk Try.prog cfg0 := by
  intro f g h
  simp only [cfg0] at h
  split at h
  · rename_i hf
    injection h with h; subst h hf
    exact parseX_ok
  · cases h
set_option maxRecDepth 1000000 in
theorem works0 : icall Try.prog cfg0 60 9 [] [] = some (.ret (.d (.bool true)), []) := by kernel_rfl
/-- What is proved whole is taken as given. -/
def worksX (args : List AV) (H : Hp) : Option (Res × Hp) := match args, H with
  | [], [] => some (.ret (.d (.bool true)), [])
  | _, _ => none
noncomputable def cfg : Cfg := ⟨fun f k => (keepT.lookup (f, k)).getD [], fun f => [], ownG, fun f => if f = 9 then some worksX else if f = 10 then some parseX else none, fun f k => exitT.lookup (f, k), false⟩
theorem hext : ExtOk Try.prog cfg := by
  intro f g h
  simp only [cfg] at h
  split at h
  · rename_i hf
    injection h with h; subst h hf
    intro args H res H' hg
    unfold worksX at hg
    split at hg
    · injection hg with hg
      injection hg with h1 h2
      subst h1 h2
      exact icall_ok hext0 60 9 _ _ _ _ works0
    · cases hg
  · split at h
    · rename_i hf
      injection h with h; subst h hf
      exact parseX_ok
    · cases h
end Go.Rx07
