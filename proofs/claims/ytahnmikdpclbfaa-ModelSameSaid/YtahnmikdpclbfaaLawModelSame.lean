import Derived.Test.YtahnmikdpclbfaaRows
import Derived.Test.YtahnmikdpclbfaaR11Law
import Derived.Test.YtahnmikdpclbfaaR11TD
import Derived.WalkKit
import Derived.ProofKit
import Derived.OpenShut
import Derived.ShutString
import Derived.ChangeOld
import Derived.Below
import Derived.SizedLaws
namespace Go.Proofs.Ytahnmikdpclbfaa.modelSame
open Go Go.Rx Go.Rx11 Go.RxTree Go.ChangeShapes Go.WideShapes Go.ChangeAt Go.RowKit
set_option linter.unusedVariables false
set_option maxRecDepth 1000000
theorem own : ownKnob Try.prog.godebug = none := by kernel_rfl
theorem laidOut : laidOutB Try.prog = true := by kernel_rfl
theorem params : Try.f9.params.toList = [24, 24] := by kernel_rfl
theorem shape : closedT Try.prog [24, 9, 22, 57, 3, 29, 55, 71, 31, 2] = true := by kernel_rfl
theorem bools : Try.prog.underlying 4 = some .bool := by kernel_rfl
theorem lifted (os : Os) (started : os.Started) (H : Type) (enc : TypeId × Value → H) :
    ReturnsInHanded {} Try.checked os 9 .any (Rows.modelSameSpec.pre6 enc Try.prog Try.f9 Rows.modelSameRow.domain false) (Rows.modelSameSpec.post enc Try.prog Try.f9 false true false false) := by
  refine returnsInHanded_of_change_sized (C := Try.checked) own started (by kernel_rfl) Try.func9
    (ChangeSpec.witness6 (enc := enc) (C := Try.checked) false ⟨#[], #[.agg #[.string ByteArray.empty, .slice none 0 0], .agg #[.string ByteArray.empty, .slice none 0 0]], []⟩ 8 (by kernel_rfl) (by kernel_rfl) (by kernel_rfl) (by kernel_rfl)) ?_
  intro W base args ds gs before hval0 hW hcnd hsz0 _
  have hval : ∀ (j : Nat) t v, Try.f9.params[j]? = some t → args[j]? = some v → Value.okWide Try.prog W .any base t v := hval0
  have hW' := hW
  obtain ⟨p, q, hA0, hV, rfl, hfz, hnd⟩ := hW
  have hA : DataW.TrodAll enc Try.prog W 0 (fun _ => true) true Try.f9.params.toList args.toList ds p := hA0
  have hval' : ∀ (j : Nat) (t : TypeId) (v : Value), Try.f9.params.toList[j]? = some t → args.toList[j]? = some v → Value.okWide Try.prog W .any base t v := fun j t v h1 h2 => hval j t v (by simpa using h1) (by simpa using h2)
  rw [params] at hA hval'
  have hrun := law_calls (enc := enc) hext shape (f := 9) (ts := [24, 24]) (by decide) hA hval' (fun dss hl hd => by
    match dss, hl with
    | [d1, d2], _ =>
      obtain ⟨n1, t1⟩ := hd 0 24 d1 rfl rfl
      obtain ⟨n2, t2⟩ := hd 1 24 d2 rfl rfl
      obtain ⟨a, rfl, ha⟩ := td_def t1
      obtain ⟨b, rfl, hb⟩ := td_def t2
      refine ⟨a.wt + b.wt + 3, [], ?_⟩
      have := law9 a b ha hb (a.wt + b.wt + 3) (by omega)
      rw [← arg_def, ← arg_def] at this
      exact this)
  obtain ⟨v0, vs0, d0, ds0, p0, q0, hargs, rfl, rfl, h0, r0⟩ := trodAll_cons hA
  obtain ⟨v1, vs1, d1, ds1, p1, q1, rfl, rfl, rfl, h1, r1⟩ := trodAll_cons r0
  obtain ⟨rfl, rfl, rfl⟩ := trodAll_nil r1
  obtain rfl : args = #[v0, v1] := by cases args; simp_all
  obtain ⟨rfl, rfl⟩ := trodVars_none hV
  have lt0 : ∀ x ∈ p0, x.block < W.heap.size := by obtain ⟨m, hm⟩ := h0; exact DataW.trod_lt m _ _ _ hm
  have lt1 : ∀ x ∈ p1, x.block < W.heap.size := by obtain ⟨m, hm⟩ := h1; exact DataW.trod_lt m _ _ _ hm
  refine hrun.mono fun e W' ⟨he, bel⟩ => ?_
  subst he
  exact ⟨_, rfl, _, _, _, [], _, [], hW', trodAll_mk1 (shut_bool bools _), (trodAll_cons_mk (Below.trod laidOut (by kernel_rfl) (of_decide_eq_true (by kernel_rfl)) h0 bel lt0) (trodAll_cons_mk (Below.trod laidOut (by kernel_rfl) (of_decide_eq_true (by kernel_rfl)) h1 bel lt1) trodAll_mk0)), rfl, bel.frame _, fun h => by cases h⟩
theorem over : Rows.modelSameRow.holds Try.pinned (OpenSpec.ofChange Rows.modelSameSpec) :=
  OpenClaim.holds_of_wide 9 Try.f9 rfl rfl rfl rfl rfl rfl rfl ⟨rfl, rfl, rfl, rfl, rfl⟩ rfl rfl rfl rfl rfl (by kernel_rfl) Try.func9 (by kernel_rfl)
    (of_decide_eq_true (by kernel_rfl)) (by unfold Func.isWrapper; first | (rw [if_pos (by decide +kernel)]; kernel_rfl) | (rw [if_neg (by decide +kernel)]; exact ⟨rfl, rfl⟩))
    (fun os started H enc _ => lifted os started H enc)
theorem proved : Rows.ModelSameSaid := over
#print axioms proved
end Go.Proofs.Ytahnmikdpclbfaa.modelSame
namespace Go.Proofs.Ytahnmikdpclbfaa
/-- The row, under a short name, for the claim. -/
theorem modelSame_holds : Rows.ModelSameSaid := modelSame.proved
end Go.Proofs.Ytahnmikdpclbfaa
