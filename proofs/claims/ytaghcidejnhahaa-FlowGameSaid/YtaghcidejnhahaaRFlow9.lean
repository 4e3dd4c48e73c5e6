/- A part of the proof of the law: what functions of the program come to, walked by Rx, or plain facts on it. -/
import Derived.Test.YtaghcidejnhahaaRFlow8
open Go Go.Rx Go.Proofs Go.Rx12 Go.RxTree
set_option maxRecDepth 1000000
set_option maxHeartbeats 4000000
set_option linter.unusedVariables false
set_option linter.unusedSimpArgs false
namespace Go.Rx12
theorem of10_bad (d : DefT) (hs : d.Sm) (ho : d.Ok) (hc0 : checkD d ≠ 0) (k : Nat) (hk : d.wt + 100 ≤ k) : icall Try.prog cfg k 10 [d.av] [] = some (.ret (.tuple [.agg [.d (.list []), .d (.list []), .d (.list [])], .d (.int .i64 (checkD d))]), []) := by
  obtain ⟨k, rfl⟩ : ∃ j, k = j + 1 := ⟨k - 1, by omega⟩
  have hc := check12 d hs ho k (by omega)
  generalize checkD d = c at *
  obtain ⟨id, ps⟩ := d
  show icall Try.prog cfg _ _ [.agg [.d (.str id), .d (.list (ps.map PlaceT.cells))]] [] = _
  have hcc : (DefT.mk id ps).av = .agg [.d (.str id), .d (.list (ps.map PlaceT.cells))] := rfl
  rw [hcc] at hc
  rw [icall_body rfl Try.func10]
  obtain ⟨lp, hlp⟩ : ∃ lp, lp = lpOf Try.prog cfg (icall Try.prog cfg k) Try.f10.ntmps 10 k (([] : Hp).map (·.1)) := ⟨_, rfl⟩
  rw [← hlp]
  conv => lhs; whnf
  refine nextK_of hc ?_
  conv => lhs; whnf
  refine iteK_bne_t hc0 ?_
  conv => lhs; whnf
  refine Eq.trans (b := some (Res.ret (AV.tuple [AV.agg [AV.d (D.list []), AV.d (D.list []), AV.d (D.list [])], AV.d (D.int IntKind.i64 c)]), [])) (by kernel_rfl) ?_
  rfl
theorem of10_walk (id : List UInt8) (ps : List PlaceT) (hs : DefT.Sm ⟨id, ps⟩) (ho : DefT.Ok ⟨id, ps⟩) (hc0 : checkD ⟨id, ps⟩ = 0) (n : Nat) (hps : ps.length = n) (hn : n ≤ 4096) (hn0 : 0 < n) (hO : ∀ p ∈ ps, outsOk p.out n ∧ p.out.length ≤ 16) (k : Nat) (hk : DefT.wt ⟨id, ps⟩ + 100 ≤ k) (hk2 : 5000 ≤ k) :
    icall Try.prog cfg k 10 [DefT.av ⟨id, ps⟩] [] = some (.ret (.tuple [if walkE ps = 0 then .agg [.d (.list (iC (walkW ps).fork)), .d (.list (iC (walkW ps).deep)), .d (.list (iC (walkW ps).join))] else .agg [.d (.list []), .d (.list []), .d (.list [])], .d (.int .i64 (walkE ps))]), []) := by
  obtain ⟨k, rfl⟩ : ∃ j, k = j + 1 := ⟨k - 1, by omega⟩
  have hc := check12 ⟨id, ps⟩ hs ho k (by omega)
  rw [hc0] at hc
  have hpl : (ps.map PlaceT.cells).length = n := by rw [List.length_map, hps]
  have e0 := enter_first id (ps.map PlaceT.cells) n (List.replicate n [.bool false]) (List.replicate n [.int .i64 0]) (List.replicate n [.int .i64 0]) (List.replicate n [.int .i64 0]) (List.replicate n [.int .i64 0]) 0 0 hn0 (by simp [hn0]) (by simp [hn0]) (by simp [hn0]) k (by omega)
  have hmx : 16 ≤ maxLen := by decide
  have hO' : ∀ p ∈ ps, outsOk p.out n ∧ p.out.length ≤ maxLen ∧ p.out.length + 20 < k := fun p hp => by
    obtain ⟨q1, q2⟩ := hO p hp
    exact ⟨q1, by omega, by omega⟩
  have hL := fun lf st => ofL k id ps n hn hps hO' rfl n 0 (startW n) lf st (start_mu hn0) (by omega) (start_len n) (start_bd hn0) rfl
  have hlw : (walkW ps).Len n := by unfold walkW; rw [hps]; exact walk_len (fun p hp => (hO p hp).1) (start_len n)
  rw [show walkS ps n (startW n) = walkW ps by unfold walkW; rw [hps]] at hL
  have hE := fun lf st => ofE k (by omega) id ps n hn hps (walkW ps) hlw rfl n 0 0 (walkW ps).err lf st (by omega) (by omega) rfl
  rw [show endE (walkW ps) (ps.drop 0) 0 (walkW ps).err = walkE ps from rfl] at hE
  generalize walkE ps = e2 at *
  generalize walkW ps = w2 at *
  simp only [ofSt, ofH, startW, ← bC_set, ← iC_set, bC_rep, iC_rep] at hL
  obtain ⟨me, fo, de, jo, up, nx, e⟩ := w2
  have t1 : List.take n (iC fo) = iC fo := List.take_of_length_le (by rw [iC_len]; exact Nat.le_of_eq hlw.2.1)
  have t2 : List.take n (iC de) = iC de := List.take_of_length_le (by rw [iC_len]; exact Nat.le_of_eq hlw.2.2.1)
  have t3 : List.take n (iC jo) = iC jo := List.take_of_length_le (by rw [iC_len]; exact Nat.le_of_eq hlw.2.2.2.1)
  have hcc : (DefT.mk id ps).av = .agg [.d (.str id), .d (.list (ps.map PlaceT.cells))] := rfl
  rw [hcc] at hc ⊢
  generalize hpc : ps.map PlaceT.cells = pl at *
  rw [icall_body rfl Try.func10]
  obtain ⟨lp, hlp⟩ : ∃ lp, lp = lpOf Try.prog cfg (icall Try.prog cfg k) Try.f10.ntmps 10 k (([] : Hp).map (·.1)) := ⟨_, rfl⟩
  rw [← hlp]
  rw [← (show lp = lpOf Try.prog cfg (icall Try.prog cfg k) Try.f10.ntmps 10 k (([] : Hp).map (·.1)) from hlp)] at hL hE
  by_cases ge : e2 = 0
  · rw [if_pos ge]
    conv => lhs; whnf
    refine nextK_of hc ?_
    conv => lhs; whnf
    refine iteO_t (by kernel_rfl) ?_
    conv => lhs; whnf
    refine nextK_of (aop_mkO (n := n) (by rw [← hpl]; rfl) (by rw [← hpl]; rfl) rfl rfl rfl rfl (lenM1 (by omega)) rfl (by decide) rfl) ?_
    conv => lhs; whnf
    refine nextK_of (aop_mkO (n := n) (by rw [← hpl]; rfl) (by rw [← hpl]; rfl) rfl rfl rfl rfl (lenM8 (by omega)) rfl (by decide) rfl) ?_
    conv => lhs; whnf
    refine nextK_of (aop_mkO (n := n) (by rw [← hpl]; rfl) (by rw [← hpl]; rfl) rfl rfl rfl rfl (lenM8 (by omega)) rfl (by decide) rfl) ?_
    conv => lhs; whnf
    refine nextK_of (aop_mkO (n := n) (by rw [← hpl]; rfl) (by rw [← hpl]; rfl) rfl rfl rfl rfl (lenM8 (by omega)) rfl (by decide) rfl) ?_
    conv => lhs; whnf
    refine nextK_of (aop_mkO (n := n) (by rw [← hpl]; rfl) (by rw [← hpl]; rfl) rfl rfl rfl rfl (lenM8 (by omega)) rfl (by decide) rfl) ?_
    conv => lhs; whnf
    refine iteO_t (by kernel_rfl) ?_
    conv => lhs; whnf
    refine nextK_of e0 ?_
    conv => lhs; whnf
    refine nextK_of (loop_at hlp (hL k _ (by omega) rfl)) ?_
    conv => lhs; whnf
    refine nextK_of (loop_at hlp (hE k _ (by omega) rfl)) ?_
    conv => lhs; whnf
    refine iteK_bne_f ge ?_
    conv => lhs; whnf
    refine Eq.trans (b := some (Res.ret (AV.tuple [AV.agg [AV.d (D.list (List.take n (iC (Wk.mk me fo de jo up nx e).fork))), AV.d (D.list (List.take n (iC (Wk.mk me fo de jo up nx e).deep))), AV.d (D.list (List.take n (iC (Wk.mk me fo de jo up nx e).join)))], AV.d (D.int IntKind.i64 (0 : Int))]), [])) (by kernel_rfl) ?_
    rw [t1, t2, t3, ge]
  · rw [if_neg ge]
    conv => lhs; whnf
    refine nextK_of hc ?_
    conv => lhs; whnf
    refine iteO_t (by kernel_rfl) ?_
    conv => lhs; whnf
    refine nextK_of (aop_mkO (n := n) (by rw [← hpl]; rfl) (by rw [← hpl]; rfl) rfl rfl rfl rfl (lenM1 (by omega)) rfl (by decide) rfl) ?_
    conv => lhs; whnf
    refine nextK_of (aop_mkO (n := n) (by rw [← hpl]; rfl) (by rw [← hpl]; rfl) rfl rfl rfl rfl (lenM8 (by omega)) rfl (by decide) rfl) ?_
    conv => lhs; whnf
    refine nextK_of (aop_mkO (n := n) (by rw [← hpl]; rfl) (by rw [← hpl]; rfl) rfl rfl rfl rfl (lenM8 (by omega)) rfl (by decide) rfl) ?_
    conv => lhs; whnf
    refine nextK_of (aop_mkO (n := n) (by rw [← hpl]; rfl) (by rw [← hpl]; rfl) rfl rfl rfl rfl (lenM8 (by omega)) rfl (by decide) rfl) ?_
    conv => lhs; whnf
    refine nextK_of (aop_mkO (n := n) (by rw [← hpl]; rfl) (by rw [← hpl]; rfl) rfl rfl rfl rfl (lenM8 (by omega)) rfl (by decide) rfl) ?_
    conv => lhs; whnf
    refine iteO_t (by kernel_rfl) ?_
    conv => lhs; whnf
    refine nextK_of e0 ?_
    conv => lhs; whnf
    refine nextK_of (loop_at hlp (hL k _ (by omega) rfl)) ?_
    conv => lhs; whnf
    refine nextK_of (loop_at hlp (hE k _ (by omega) rfl)) ?_
    conv => lhs; whnf
    refine iteK_bne_t ge ?_
    conv => lhs; whnf
    refine iteO_t (by kernel_rfl) ?_
    conv => lhs; whnf
    refine iteO_t (by kernel_rfl) ?_
    conv => lhs; whnf
    refine Eq.trans (b := some (Res.ret (AV.tuple [AV.agg [AV.d (D.list []), AV.d (D.list []), AV.d (D.list [])], AV.d (D.int IntKind.i64 e2)]), [])) (by kernel_rfl) ?_
    rfl
end Go.Rx12
