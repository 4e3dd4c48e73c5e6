/- FlowAsks, for every input: the law's Go function returns true. Conditions: none beyond the row's own. -/
import Derived.Test.YtaghcidejnhahaaRows
import Derived.Test.YtaghcidejnhahaaRLawAsks
import Derived.Test.YtaghcidejnhahaaRTD
import Derived.WalkKit
import Derived.ProofKit
import Derived.OpenShut
import Derived.ShutString
import Derived.ChangeOld
import Derived.Below
import Derived.SizedLaws
namespace Go.Proofs.Ytaghcidejnhahaa.flowAsks
open Go Go.Rx Go.Rx12 Go.RxTree Go.ChangeShapes Go.WideShapes Go.ChangeAt Go.RowKit
set_option linter.unusedVariables false
set_option maxRecDepth 1000000
theorem own : ownKnob Try.prog.godebug = none := by kernel_rfl
theorem laidOut : laidOutB Try.prog = true := by kernel_rfl
theorem params : Try.f4.params.toList = [24, 3] := by kernel_rfl
theorem shape : closedT Try.prog [2, 3, 9, 22, 24, 42, 43, 45, 47, 79] = true := by kernel_rfl
theorem bools : Try.prog.underlying 4 = some .bool := by kernel_rfl
theorem lifted (os : Os) (started : os.Started) (H : Type) (enc : TypeId × Value → H) :
    ReturnsInHanded {} Try.checked os 4 .any (Rows.flowAsksSpec.pre6 enc Try.prog Try.f4 Rows.flowAsksRow.domain false) (Rows.flowAsksSpec.post enc Try.prog Try.f4 false true false false) := by
  refine returnsInHanded_of_change_sized (C := Try.checked) own started (by kernel_rfl) Try.func4
    (ChangeSpec.witness6 (enc := enc) (C := Try.checked) false ⟨#[], #[.agg #[.string ByteArray.empty, .slice none 0 0], .int .i64 0], []⟩ 8 (by kernel_rfl) (by kernel_rfl) (by kernel_rfl) (by kernel_rfl)) ?_
  intro W base args ds gs before hval0 hW hcnd hsz0 _
  have hval : ∀ (j : Nat) t v, Try.f4.params[j]? = some t → args[j]? = some v → Value.okWide Try.prog W .any base t v := hval0
  have hW' := hW
  obtain ⟨p, q, hA0, hV, rfl, hfz, hnd⟩ := hW
  obtain ⟨rfl, rfl⟩ := trodVars_none hV
  have hA : DataW.TrodAll enc Try.prog W 0 (fun _ => true) true Try.f4.params.toList args.toList ds p := hA0
  have hval' : ∀ (j : Nat) (t : TypeId) (v : Value), Try.f4.params.toList[j]? = some t → args.toList[j]? = some v → Value.okWide Try.prog W .any base t v := fun j t v h1 h2 => hval j t v (by simpa using h1) (by simpa using h2)
  have hsz : (DataW.weightsEach Try.prog (Try.f4.params.toList ++ []) (ds ++ [])).all (· ≤ reachBytes) = true := hsz0
  rw [List.append_nil, List.append_nil] at hsz
  rw [params] at hA hval' hsz
  have hrun := law_calls (enc := enc) hext shape (f := 4) (ts := [24, 3]) (by decide) hA hval' hsz (fun dss hl hd => by
    match dss, hl with
    | [d0, d1], _ =>
      obtain ⟨n0, t0⟩ := hd 0 24 d0 rfl rfl
      obtain ⟨n1, t1⟩ := hd 1 3 d1 rfl rfl
      obtain ⟨a0, rfl, o0, s0⟩ := td_def t0
      obtain ⟨a1, rfl, o1⟩ := td_int (k := .i64) (by kernel_rfl) t1
      refine ⟨a0.wt + 130000 + 64, [], ?_⟩
      have := law4 a0 o0 s0 a1 o1 (a0.wt + 130000 + 64) (by omega)
      rw [← arg_def a0] at this
      exact this)
  obtain ⟨v0, vs0, e0, ds0, p0, q0, hargs, rfl, rfl, h0, r0⟩ := trodAll_cons hA
  obtain ⟨v1, vs1, e1, ds1, p1, q1, rfl, rfl, rfl, h1, r1⟩ := trodAll_cons r0
  obtain ⟨rfl, rfl, rfl⟩ := trodAll_nil r1
  obtain rfl : args = #[v0, v1] := by cases args; simp_all
  have lt0 : ∀ x ∈ p0, x.block < W.heap.size := by obtain ⟨m, hm⟩ := h0; exact DataW.trod_lt m _ _ _ hm
  have lt1 : ∀ x ∈ p1, x.block < W.heap.size := by obtain ⟨m, hm⟩ := h1; exact DataW.trod_lt m _ _ _ hm
  refine hrun.mono fun e W' ⟨he, bel⟩ => ?_
  subst he
  exact ⟨_, rfl, _, _, _, [], _, [], hW', trodAll_mk1 (shut_bool bools _), (trodAll_cons_mk (Below.trod laidOut (by kernel_rfl) (of_decide_eq_true (by kernel_rfl)) h0 bel lt0) (trodAll_cons_mk (Below.trod laidOut (by kernel_rfl) (of_decide_eq_true (by kernel_rfl)) h1 bel lt1) trodAll_mk0)), rfl, bel.frame _, fun h => by cases h⟩
theorem over : Rows.flowAsksRow.holds Try.pinned (OpenSpec.ofChange Rows.flowAsksSpec) :=
  OpenClaim.holds_of_wide 4 Try.f4 rfl rfl rfl rfl rfl rfl rfl ⟨rfl, rfl, rfl, rfl, rfl⟩ rfl rfl rfl rfl rfl (by kernel_rfl) Try.func4 (by kernel_rfl)
    (of_decide_eq_true (by kernel_rfl)) (by unfold Func.isWrapper; first | (rw [if_pos (by decide +kernel)]; kernel_rfl) | (rw [if_neg (by decide +kernel)]; exact ⟨rfl, rfl⟩))
    (fun os started H enc _ => lifted os started H enc)
theorem proved : Rows.FlowAsksSaid := over
#print axioms proved
end Go.Proofs.Ytaghcidejnhahaa.flowAsks
namespace Go.Proofs.Ytaghcidejnhahaa
/-- The row, under a short name, for the claim. -/
theorem flowAsks_holds : Rows.FlowAsksSaid := flowAsks.proved
end Go.Proofs.Ytaghcidejnhahaa
