/- A part of the proof of the law: what functions of the program come to, walked by Rx, or plain facts on it. -/
import Derived.Test.YtaghcidejnhahaaRRow5
import Derived.Test.YtaghcidejnhahaaRJ0
open Go Go.Rx Go.Proofs Go.Rx12 Go.RxTree
set_option maxRecDepth 1000000
set_option maxHeartbeats 4000000
set_option linter.unusedVariables false
set_option linter.unusedSimpArgs false
namespace Go.Rx12
/-- A shape. -/
def shV (f d j : List Int) : AV := .agg [.d (.list (iC f)), .d (.list (iC d)), .d (.list (iC j))]
theorem of11_bad (d : DefT) (hs : d.Sm) (ho : d.Ok) (hc0 : checkD d ≠ 0) (k : Nat) (hk : d.wt + 100 ≤ k) : icall Try.prog cfg k 11 [d.av] [] = some (.ret (.tuple [shV [] [] [], .d (.int .i64 (checkD d))]), []) := by
  obtain ⟨k, rfl⟩ : ∃ j, k = j + 1 := ⟨k - 1, by omega⟩
  have hc := check13 d hs ho k (by omega)
  generalize checkD d = c at *
  obtain ⟨id, ps⟩ := d
  show icall Try.prog cfg _ _ [.agg [.d (.str id), .d (.list (ps.map PlaceT.cells))]] [] = _
  have hcc : (DefT.mk id ps).av = .agg [.d (.str id), .d (.list (ps.map PlaceT.cells))] := rfl
  rw [hcc] at hc
  rw [icall_body rfl Try.func11]
  obtain ⟨lp, hlp⟩ : ∃ lp, lp = lpOf Try.prog cfg (icall Try.prog cfg k) Try.f11.ntmps 11 k (([] : Hp).map (·.1)) := ⟨_, rfl⟩
  rw [← hlp]
  conv => lhs; whnf
  refine nextK_of hc ?_
  conv => lhs; whnf
  refine iteK_bne_t hc0 ?_
  conv => lhs; whnf
  refine Eq.trans (b := some (Res.ret (AV.tuple [AV.agg [AV.d (D.list []), AV.d (D.list []), AV.d (D.list [])], AV.d (D.int IntKind.i64 c)]), [])) (by kernel_rfl) ?_
  rfl
theorem of11_walk (id : List UInt8) (ps : List PlaceT) (hs : DefT.Sm ⟨id, ps⟩) (ho : DefT.Ok ⟨id, ps⟩) (hc0 : checkD ⟨id, ps⟩ = 0) (n : Nat) (hps : ps.length = n) (hn : n ≤ 4096) (hn0 : 0 < n) (hO : ∀ p ∈ ps, outsOk p.out n ∧ p.out.length ≤ 16) (k : Nat) (hk : DefT.wt ⟨id, ps⟩ + 100 ≤ k) (hk2 : 110000 ≤ k) :
    icall Try.prog cfg k 11 [DefT.av ⟨id, ps⟩] [] = some (.ret (.tuple [if refE ps = 0 then shV (rowF (rowsR ps).1.rows) (rowD (rowsR ps).1.rows) (rowsR ps).1.joins else shV [] [] [], .d (.int .i64 (refE ps))]), []) := by
  obtain ⟨k, rfl⟩ : ∃ j, k = j + 1 := ⟨k - 1, by omega⟩
  have hc := check13 ⟨id, ps⟩ hs ho k (by omega)
  rw [hc0] at hc
  have hr := rows23 id ps n hps hn hn0 hO k (by omega)
  have hok := rowsR_ok (ps := ps) (by omega) (fun p hp => by rw [hps]; exact (hO p hp).1)
  rw [hps] at hok
  have hL := fun lf st => ofrF id ps n hps hn hn0 (rowsR ps).1.rows hok.len.1 (fun r hr => (hok.fks r hr).1) (rowsR ps).1.joins hok.len.2 k (by omega) rfl 0 rfl lf st
  unfold refE
  generalize rowsR ps = q at *
  obtain ⟨⟨rs, js, od⟩, e⟩ := q
  dsimp only at *
  have hcc : (DefT.mk id ps).av = .agg [.d (.str id), .d (.list (ps.map PlaceT.cells))] := rfl
  rw [hcc] at hc ⊢
  clear hok hO ho hs
  generalize badF ps rs js = bf at *
  generalize badD ps rs js = bd at *
  generalize endR ps rs js = en at *
  have t1 : List.take (rowF rs).length (iC (rowF rs)) = iC (rowF rs) := iC_full _
  have t2 : List.take (rowD rs).length (iC (rowD rs)) = iC (rowD rs) := iC_full _
  generalize rowF rs = rf at *
  generalize rowD rs = rd at *
  generalize hpc : ps.map PlaceT.cells = pl at *
  by_cases he : e = 0
  · subst he
    rw [if_pos rfl]
    cases en with
    | true =>
      rw [show (if (true = true) then (0 : Int) else 8) = 0 from if_pos rfl, if_pos rfl]
      rw [icall_body rfl Try.func11]
      obtain ⟨lp, hlp⟩ : ∃ lp, lp = lpOf Try.prog cfg (icall Try.prog cfg k) Try.f11.ntmps 11 k (([] : Hp).map (·.1)) := ⟨_, rfl⟩
      rw [← hlp]
      rw [← (show lp = lpOf Try.prog cfg (icall Try.prog cfg k) Try.f11.ntmps 11 k (([] : Hp).map (·.1)) from hlp)] at hL
      conv => lhs; whnf
      refine nextK_of hc ?_
      conv => lhs; whnf
      refine nextK_of hr ?_
      conv => lhs; whnf
      refine nextK_ite (loop_at hlp (hL k _ (by omega) rfl)) ?_
      conv => lhs; whnf
      refine Eq.trans (b := some (Res.ret (AV.tuple [AV.agg [AV.d (D.list (List.take (List.length rf) (iC rf))), AV.d (D.list (List.take (List.length rd) (iC rd))), AV.d (D.list (iC js))], AV.d (D.int IntKind.i64 (0 : Int))]), [])) (by kernel_rfl) ?_
      (rw [t1, t2]; rfl)
    | false =>
      rw [show (if (false = true) then (0 : Int) else 8) = 8 from if_neg Bool.false_ne_true, if_neg (by decide)]
      cases bf with
      | nil =>
        rw [icall_body rfl Try.func11]
        obtain ⟨lp, hlp⟩ : ∃ lp, lp = lpOf Try.prog cfg (icall Try.prog cfg k) Try.f11.ntmps 11 k (([] : Hp).map (·.1)) := ⟨_, rfl⟩
        rw [← hlp]
        rw [← (show lp = lpOf Try.prog cfg (icall Try.prog cfg k) Try.f11.ntmps 11 k (([] : Hp).map (·.1)) from hlp)] at hL
        simp only [ofrY] at hL
        conv => lhs; whnf
        refine nextK_of hc ?_
        conv => lhs; whnf
        refine nextK_of hr ?_
        conv => lhs; whnf
        refine nextK_ite (loop_at hlp (hL k _ (by omega) rfl)) ?_
        conv => lhs; whnf
        refine Eq.trans (b := some (Res.ret (AV.tuple [AV.agg [AV.d (D.list []), AV.d (D.list []), AV.d (D.list [])], AV.d (D.int IntKind.i64 (8 : Int))]), [])) (by kernel_rfl) ?_
        rfl
      | cons x r =>
        rw [icall_body rfl Try.func11]
        obtain ⟨lp, hlp⟩ : ∃ lp, lp = lpOf Try.prog cfg (icall Try.prog cfg k) Try.f11.ntmps 11 k (([] : Hp).map (·.1)) := ⟨_, rfl⟩
        rw [← hlp]
        rw [← (show lp = lpOf Try.prog cfg (icall Try.prog cfg k) Try.f11.ntmps 11 k (([] : Hp).map (·.1)) from hlp)] at hL
        simp only [ofrY] at hL
        conv => lhs; whnf
        refine nextK_of hc ?_
        conv => lhs; whnf
        refine nextK_of hr ?_
        conv => lhs; whnf
        refine nextK_ite (loop_at hlp (hL k _ (by omega) rfl)) ?_
        conv => lhs; whnf
        refine Eq.trans (b := some (Res.ret (AV.tuple [AV.agg [AV.d (D.list []), AV.d (D.list []), AV.d (D.list [])], AV.d (D.int IntKind.i64 (8 : Int))]), [])) (by kernel_rfl) ?_
        rfl
  · clear hL
    rw [if_neg he, if_neg he]
    rw [icall_body rfl Try.func11]
    obtain ⟨lp, hlp⟩ : ∃ lp, lp = lpOf Try.prog cfg (icall Try.prog cfg k) Try.f11.ntmps 11 k (([] : Hp).map (·.1)) := ⟨_, rfl⟩
    rw [← hlp]
    conv => lhs; whnf
    refine nextK_of hc ?_
    conv => lhs; whnf
    refine nextK_of hr ?_
    conv => lhs; whnf
    refine iteK_bne_t he ?_
    conv => lhs; whnf
    refine Eq.trans (b := some (Res.ret (AV.tuple [AV.agg [AV.d (D.list []), AV.d (D.list []), AV.d (D.list [])], AV.d (D.int IntKind.i64 e)]), [])) (by kernel_rfl) ?_
    rfl
theorem of11 (d : DefT) (hs : d.Sm) (ho : d.Ok) (k : Nat) (hk : d.wt + 110100 ≤ k) : icall Try.prog cfg k 11 [d.av] [] = some (.ret (.tuple [shV (refFork d) (refDeep d) (refJoin d), .d (.int .i64 (refErr d))]), []) := by
  by_cases h0 : checkD d = 0
  · obtain ⟨id, ps⟩ := d
    obtain ⟨c1, c2, _⟩ := check_ok h0
    have h := of11_walk id ps hs ho h0 ps.length rfl c1 c2 (check_out h0) k (by omega) (by omega)
    rw [h]
    simp only [refFork, refDeep, refJoin, refErr, if_pos h0]
    by_cases he : refE ps = 0
    · simp only [if_pos he]
    · simp only [if_neg he]
  · rw [of11_bad d hs ho h0 k (by omega)]
    simp only [refFork, refDeep, refJoin, refErr, if_neg h0]
theorem same12 (f1 d1 j1 f2 d2 j2 : List Int) (h1 : f1.length ≤ 5000) (h2 : d1.length ≤ 5000) (h3 : j1.length ≤ 5000) (k : Nat) (hk : 5100 ≤ k) : icall Try.prog cfg k 12 [shV f1 d1 j1, shV f2 d2 j2] [] = some (.ret (.d (.bool (sameS f1 f2 && (sameS d1 d2 && sameS j1 j2)))), []) := by
  obtain ⟨k, rfl⟩ : ∃ j, k = j + 1 := ⟨k - 1, by omega⟩
  have hmx : 10000 ≤ maxLen := by decide
  have c1 := same31 f1 f2 (by omega) k (by omega)
  have c2 := same31 d1 d2 (by omega) k (by omega)
  have c3 := same31 j1 j2 (by omega) k (by omega)
  unfold shV
  generalize sameS f1 f2 = b1 at *
  generalize sameS d1 d2 = b2 at *
  generalize sameS j1 j2 = b3 at *
  cases b1 <;> cases b2
  · rw [icall_body rfl Try.func12]
    obtain ⟨lp, hlp⟩ : ∃ lp, lp = lpOf Try.prog cfg (icall Try.prog cfg k) Try.f12.ntmps 12 k (([] : Hp).map (·.1)) := ⟨_, rfl⟩
    rw [← hlp]
    conv => lhs; whnf
    refine nextK_of c1 ?_
    conv => lhs; whnf
    refine Eq.trans (b := some (Res.ret (AV.d (D.bool false)), [])) (by kernel_rfl) ?_
    rfl
  · rw [icall_body rfl Try.func12]
    obtain ⟨lp, hlp⟩ : ∃ lp, lp = lpOf Try.prog cfg (icall Try.prog cfg k) Try.f12.ntmps 12 k (([] : Hp).map (·.1)) := ⟨_, rfl⟩
    rw [← hlp]
    conv => lhs; whnf
    refine nextK_of c1 ?_
    conv => lhs; whnf
    refine Eq.trans (b := some (Res.ret (AV.d (D.bool false)), [])) (by kernel_rfl) ?_
    rfl
  · rw [icall_body rfl Try.func12]
    obtain ⟨lp, hlp⟩ : ∃ lp, lp = lpOf Try.prog cfg (icall Try.prog cfg k) Try.f12.ntmps 12 k (([] : Hp).map (·.1)) := ⟨_, rfl⟩
    rw [← hlp]
    conv => lhs; whnf
    refine nextK_of c1 ?_
    conv => lhs; whnf
    refine nextK_of c2 ?_
    conv => lhs; whnf
    refine Eq.trans (b := some (Res.ret (AV.d (D.bool false)), [])) (by kernel_rfl) ?_
    rfl
  · cases b3
    · rw [icall_body rfl Try.func12]
      obtain ⟨lp, hlp⟩ : ∃ lp, lp = lpOf Try.prog cfg (icall Try.prog cfg k) Try.f12.ntmps 12 k (([] : Hp).map (·.1)) := ⟨_, rfl⟩
      rw [← hlp]
      conv => lhs; whnf
      refine nextK_of c1 ?_
      conv => lhs; whnf
      refine nextK_of c2 ?_
      conv => lhs; whnf
      refine nextK_of c3 ?_
      conv => lhs; whnf
      refine Eq.trans (b := some (Res.ret (AV.d (D.bool false)), [])) (by kernel_rfl) ?_
      rfl
    · rw [icall_body rfl Try.func12]
      obtain ⟨lp, hlp⟩ : ∃ lp, lp = lpOf Try.prog cfg (icall Try.prog cfg k) Try.f12.ntmps 12 k (([] : Hp).map (·.1)) := ⟨_, rfl⟩
      rw [← hlp]
      conv => lhs; whnf
      refine nextK_of c1 ?_
      conv => lhs; whnf
      refine nextK_of c2 ?_
      conv => lhs; whnf
      refine nextK_of c3 ?_
      conv => lhs; whnf
      refine Eq.trans (b := some (Res.ret (AV.d (D.bool true)), [])) (by kernel_rfl) ?_
      rfl
end Go.Rx12
