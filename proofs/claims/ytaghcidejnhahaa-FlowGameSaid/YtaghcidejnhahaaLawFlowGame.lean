/- FlowGame, for every input: the law's Go function returns true. Conditions: none beyond the row's own. -/
import Derived.Test.YtaghcidejnhahaaRows
import Derived.Test.YtaghcidejnhahaaRLawGame
import Derived.Test.YtaghcidejnhahaaRTDi
import Derived.WalkKit
import Derived.ProofKit
import Derived.OpenShut
import Derived.ShutString
import Derived.ChangeOld
import Derived.Below
import Derived.SizedLaws
namespace Go.Proofs.Ytaghcidejnhahaa.flowGame
open Go Go.Rx Go.Rx12 Go.RxTree Go.ChangeShapes Go.WideShapes Go.ChangeAt Go.RowKit
set_option linter.unusedVariables false
set_option maxRecDepth 1000000
theorem own : ownKnob Try.prog.godebug = none := by kernel_rfl
theorem laidOut : laidOutB Try.prog = true := by kernel_rfl
theorem params : Try.f6.params.toList = [24, 27, 27] := by kernel_rfl
theorem shape : closedT Try.prog [2, 3, 9, 22, 24, 27, 42, 43, 45, 47, 79] = true := by kernel_rfl
theorem bools : Try.prog.underlying 4 = some .bool := by kernel_rfl
theorem lifted (os : Os) (started : os.Started) (H : Type) (enc : TypeId × Value → H) :
    ReturnsInHanded {} Try.checked os 6 .any (Rows.flowGameSpec.pre6 enc Try.prog Try.f6 Rows.flowGameRow.domain false) (Rows.flowGameSpec.post enc Try.prog Try.f6 false true false false) := by
  refine returnsInHanded_of_change_sized (C := Try.checked) own started (by kernel_rfl) Try.func6
    (ChangeSpec.witness6 (enc := enc) (C := Try.checked) false ⟨#[], #[.agg #[.string ByteArray.empty, .slice none 0 0], .slice none 0 0, .slice none 0 0], []⟩ 8 (by kernel_rfl) (by kernel_rfl) (by kernel_rfl) (by kernel_rfl)) ?_
  intro W base args ds gs before hval0 hW hcnd hsz0 _
  have hval : ∀ (j : Nat) t v, Try.f6.params[j]? = some t → args[j]? = some v → Value.okWide Try.prog W .any base t v := hval0
  have hW' := hW
  obtain ⟨p, q, hA0, hV, rfl, hfz, hnd⟩ := hW
  obtain ⟨rfl, rfl⟩ := trodVars_none hV
  have hA : DataW.TrodAll enc Try.prog W 0 (fun _ => true) true Try.f6.params.toList args.toList ds p := hA0
  have hval' : ∀ (j : Nat) (t : TypeId) (v : Value), Try.f6.params.toList[j]? = some t → args.toList[j]? = some v → Value.okWide Try.prog W .any base t v := fun j t v h1 h2 => hval j t v (by simpa using h1) (by simpa using h2)
  have hsz : (DataW.weightsEach Try.prog (Try.f6.params.toList ++ []) (ds ++ [])).all (· ≤ reachBytes) = true := hsz0
  rw [List.append_nil, List.append_nil] at hsz
  rw [params] at hA hval' hsz
  have hrun := law_calls (enc := enc) hext shape (f := 6) (ts := [24, 27, 27]) (by decide) hA hval' hsz (fun dss hl hd => by
    match dss, hl with
    | [d0, d1, d2], _ =>
      obtain ⟨n0, t0⟩ := hd 0 24 d0 rfl rfl
      obtain ⟨n1, t1⟩ := hd 1 27 d1 rfl rfl
      obtain ⟨n2, t2⟩ := hd 2 27 d2 rfl rfl
      obtain ⟨a0, rfl, o0, s0⟩ := td_def t0
      obtain ⟨a1, rfl, o1, s1⟩ := td_ints t1
      obtain ⟨a2, rfl, o2, s2⟩ := td_ints t2
      refine ⟨a0.wt + 130000 + 64, [], ?_⟩
      have := law6 a0 o0 s0 a1 o1 s1 a2 o2 s2 (a0.wt + 130000 + 64) (by omega)
      rw [← arg_def a0, ← arg_ints a1, ← arg_ints a2] at this
      exact this)
  obtain ⟨v0, vs0, e0, ds0, p0, q0, hargs, rfl, rfl, h0, r0⟩ := trodAll_cons hA
  obtain ⟨v1, vs1, e1, ds1, p1, q1, rfl, rfl, rfl, h1, r1⟩ := trodAll_cons r0
  obtain ⟨v2, vs2, e2, ds2, p2, q2, rfl, rfl, rfl, h2, r2⟩ := trodAll_cons r1
  obtain ⟨rfl, rfl, rfl⟩ := trodAll_nil r2
  obtain rfl : args = #[v0, v1, v2] := by cases args; simp_all
  have lt0 : ∀ x ∈ p0, x.block < W.heap.size := by obtain ⟨m, hm⟩ := h0; exact DataW.trod_lt m _ _ _ hm
  have lt1 : ∀ x ∈ p1, x.block < W.heap.size := by obtain ⟨m, hm⟩ := h1; exact DataW.trod_lt m _ _ _ hm
  have lt2 : ∀ x ∈ p2, x.block < W.heap.size := by obtain ⟨m, hm⟩ := h2; exact DataW.trod_lt m _ _ _ hm
  refine hrun.mono fun e W' ⟨he, bel⟩ => ?_
  subst he
  exact ⟨_, rfl, _, _, _, [], _, [], hW', trodAll_mk1 (shut_bool bools _), (trodAll_cons_mk (Below.trod laidOut (by kernel_rfl) (of_decide_eq_true (by kernel_rfl)) h0 bel lt0) (trodAll_cons_mk (Below.trod laidOut (by kernel_rfl) (of_decide_eq_true (by kernel_rfl)) h1 bel lt1) (trodAll_cons_mk (Below.trod laidOut (by kernel_rfl) (of_decide_eq_true (by kernel_rfl)) h2 bel lt2) trodAll_mk0))), rfl, bel.frame _, fun h => by cases h⟩
theorem over : Rows.flowGameRow.holds Try.pinned (OpenSpec.ofChange Rows.flowGameSpec) :=
  OpenClaim.holds_of_wide 6 Try.f6 rfl rfl rfl rfl rfl rfl rfl ⟨rfl, rfl, rfl, rfl, rfl⟩ rfl rfl rfl rfl rfl (by kernel_rfl) Try.func6 (by kernel_rfl)
    (of_decide_eq_true (by kernel_rfl)) (by unfold Func.isWrapper; first | (rw [if_pos (by decide +kernel)]; kernel_rfl) | (rw [if_neg (by decide +kernel)]; exact ⟨rfl, rfl⟩))
    (fun os started H enc _ => lifted os started H enc)
theorem proved : Rows.FlowGameSaid := over
#print axioms proved
end Go.Proofs.Ytaghcidejnhahaa.flowGame
namespace Go.Proofs.Ytaghcidejnhahaa
/-- The row, under a short name, for the claim. -/
theorem flowGame_holds : Rows.FlowGameSaid := flowGame.proved
end Go.Proofs.Ytaghcidejnhahaa
