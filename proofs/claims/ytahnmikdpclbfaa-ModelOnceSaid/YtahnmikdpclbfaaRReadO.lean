/- A part of the proof of the law: what functions of the program come to, walked by Rx, or plain facts on it. -/
import Derived.Test.YtahnmikdpclbfaaRReadN
open Go Go.Rx Go.Proofs Go.Rx11 Go.RxTree
set_option maxRecDepth 1000000
set_option maxHeartbeats 4000000
set_option linter.unusedVariables false
set_option linter.unusedSimpArgs false
namespace Go.Rx11
theorem read24 (b : List UInt8) (hb : b.length ≤ LB) (k : Nat) (hk : 7 * b.length + (sDef b).wt + 30000 < k) : icall Try.prog cfg k 24 [.d (.list (bL b))] [] = some (.ret (.tuple [(readD b).1.av, .d (.int .i64 (readD b).2)]), []) := by
  obtain ⟨k, rfl⟩ : ∃ j, k = j + 1 := ⟨k - 1, by omega⟩
  obtain ⟨o1, o2⟩ := sDef_ok b hb
  have cd := check12 (sDef b) o2 o1 k (by omega)
  obtain ⟨a1, h1, c1⟩ := qText hb (s := (b, 0)) (mb := b) ⟨Nat.le_refl _, Nat.le_refl _, fun _ => rfl⟩
  obtain ⟨a2, h2, c2⟩ := qUint hb 4096 (by omega) h1
  replace c1 := c1 k (by omega)
  replace c2 := c2 k (by omega)
  have hn := sN_most 4096 (sT (b, 0)).2
  have hbl := bL_len b
  have x1 := @readD_e b
  have x2 := @readD_3 b
  have x3 := @readD_c b
  have x4 := @readD_0 b
  generalize readD b = rd at *
  replace hk : 7 * b.length + 29000 < k := by omega
  unfold sDef sD3 sD2 sD1 at *
  generalize sT (b, 0) = r1 at *
  obtain ⟨v1, b1, e1⟩ := r1
  dsimp only at c1 c2 h1 h2 cd hn x1 x2 x3 x4
  generalize sN 4096 (b1, e1) = r2 at *
  obtain ⟨n, b2, e2⟩ := r2
  dsimp only at c1 c2 h1 h2 cd hn x1 x2 x3 x4
  obtain ⟨lp, hlp⟩ : ∃ lp, lp = lpOf Try.prog cfg (icall Try.prog cfg k) Try.f24.ntmps 24 k (([] : Hp).map (·.1)) := ⟨_, rfl⟩
  by_cases g0 : e2 ≠ 0 ∨ n = 0
  · have hf : sPlaces n (b2, e2) = ([], b2, e2) := by
      rcases g0 with g | rfl
      · exact sPlaces_e n g
      · rfl
    rw [hf] at cd x1 x2 x3 x4
    dsimp only at cd x1 x2 x3 x4
    have hl := o24EN k b.length hb (by omega) v1 n (by omega) hlp a2 e2 0 (by omega) k (by omega)
    generalize hec : checkD ⟨v1, []⟩ = ec at *
    obtain ⟨q1, q2, q3⟩ := h2
    dsimp only at q2 q3
    by_cases ge : e2 = 0
    · subst ge
      replace q3 := q3 rfl
      subst q3
      have hlen := bL_len a2
      by_cases gl : 0 < a2.length
      · obtain rfl := x2 rfl gl
        rw [icall_body rfl Try.func24]
        rw [← hlp]
        conv => lhs; whnf
        refine nextK_of c1 ?_
        conv => lhs; whnf
        refine nextK_of c2 ?_
        conv => lhs; whnf
        refine nextK_of (loop_at hlp (hl _ rfl)) ?_
        conv => lhs; whnf
        refine iteK_dec (fun h1 => ?_) (fun h1 => ?_)
        · rw [dec_t h1]
          conv => lhs; whnf
          refine iteO_t (by kernel_rfl) ?_
          conv => lhs; whnf
          refine iteO_t (by kernel_rfl) ?_
          conv => lhs; whnf
          refine Eq.trans (b := some (Res.ret (AV.tuple [AV.agg [AV.d (D.str []), AV.d (D.list [])], AV.d (D.int IntKind.i64 (3 : Int))]), [])) (by kernel_rfl) ?_
          rfl
        · rw [dec_f h1]
          (exfalso; omega)
      · by_cases gc : ec = 0
        · obtain rfl := x4 rfl gl gc
          subst gc
          rw [icall_body rfl Try.func24]
          rw [← hlp]
          conv => lhs; whnf
          refine nextK_of c1 ?_
          conv => lhs; whnf
          refine nextK_of c2 ?_
          conv => lhs; whnf
          refine nextK_of (loop_at hlp (hl _ rfl)) ?_
          conv => lhs; whnf
          refine iteK_dec (fun h1 => ?_) (fun h1 => ?_)
          · rw [dec_t h1]
            (exfalso; omega)
          · rw [dec_f h1]
            conv => lhs; whnf
            refine nextK_of cd ?_
            conv => lhs; whnf
            refine Eq.trans (b := some (Res.ret (AV.tuple [AV.agg [AV.d (D.str v1), AV.d (D.list [])], AV.d (D.int IntKind.i64 (0 : Int))]), [])) (by kernel_rfl) ?_
            rfl
        · obtain rfl := x3 rfl gl gc
          rw [icall_body rfl Try.func24]
          rw [← hlp]
          conv => lhs; whnf
          refine nextK_of c1 ?_
          conv => lhs; whnf
          refine nextK_of c2 ?_
          conv => lhs; whnf
          refine nextK_of (loop_at hlp (hl _ rfl)) ?_
          conv => lhs; whnf
          refine iteK_dec (fun h1 => ?_) (fun h1 => ?_)
          · rw [dec_t h1]
            (exfalso; omega)
          · rw [dec_f h1]
            conv => lhs; whnf
            refine nextK_of cd ?_
            conv => lhs; whnf
            refine iteK_bne_t gc ?_
            conv => lhs; whnf
            refine Eq.trans (b := some (Res.ret (AV.tuple [AV.agg [AV.d (D.str []), AV.d (D.list [])], AV.d (D.int IntKind.i64 ec)]), [])) (by kernel_rfl) ?_
            rfl
    · obtain rfl := x1 ge
      rw [icall_body rfl Try.func24]
      rw [← hlp]
      conv => lhs; whnf
      refine nextK_of c1 ?_
      conv => lhs; whnf
      refine nextK_of c2 ?_
      conv => lhs; whnf
      refine nextK_of (loop_at hlp (hl _ rfl)) ?_
      conv => lhs; whnf
      refine iteK_beq_f ge ?_
      conv => lhs; whnf
      refine iteK_beq_f ge ?_
      conv => lhs; whnf
      refine iteK_beq_f ge ?_
      conv => lhs; whnf
      refine iteK_beq_f ge ?_
      conv => lhs; whnf
      refine iteK_beq_f ge ?_
      conv => lhs; whnf
      refine iteK_beq_f ge ?_
      conv => lhs; whnf
      refine iteK_beq_f ge ?_
      conv => lhs; whnf
      refine iteK_bne_t ge ?_
      conv => lhs; whnf
      refine iteO_t (by kernel_rfl) ?_
      conv => lhs; whnf
      refine iteO_t (by kernel_rfl) ?_
      conv => lhs; whnf
      refine Eq.trans (b := some (Res.ret (AV.tuple [AV.agg [AV.d (D.str []), AV.d (D.list [])], AV.d (D.int IntKind.i64 e2)]), [])) (by kernel_rfl) ?_
      rfl
  · obtain ⟨m, rfl⟩ : ∃ m, n = m + 1 := ⟨n - 1, by omega⟩
    obtain rfl : e2 = 0 := by omega
    obtain ⟨a3, h3, hl⟩ := o24S k b.length hb (by omega) v1 (m + 1) (by omega) hlp m rfl (b2, 0) a2 h2 rfl
    replace hl := fun st => hl k st (by omega)
    generalize sPlaces (m + 1) (b2, 0) = rr at *
    obtain ⟨pl, b3, e3⟩ := rr
    dsimp only at hl cd h3 x1 x2 x3 x4
    change icall Try.prog cfg k _ [.agg [.d (.str v1), .d (.list (pl.map PlaceT.cells))]] [] = _ at cd
    generalize hec : checkD ⟨v1, pl⟩ = ec at *
    have hav : (⟨v1, pl⟩ : DefT).av = .agg [.d (.str v1), .d (.list ((pl.map PlaceT.cells).take (pl.map PlaceT.cells).length))] := by rw [List.take_length]; rfl
    replace cd : icall Try.prog cfg k 12 [.agg [.d (.str v1), .d (.list ((pl.map PlaceT.cells).take (pl.map PlaceT.cells).length))]] [] = some (.ret (.d (.int .i64 ec)), []) := by rw [List.take_length]; exact cd
    obtain ⟨q1, q2, q3⟩ := h3
    dsimp only at q2 q3
    by_cases ge : e3 = 0
    · subst ge
      replace q3 := q3 rfl
      subst q3
      have hlen := bL_len a3
      by_cases gl : 0 < a3.length
      · obtain rfl := x2 rfl gl
        clear hav cd
        generalize pl.map PlaceT.cells = R at *
        rw [icall_body rfl Try.func24]
        rw [← hlp]
        conv => lhs; whnf
        refine nextK_of c1 ?_
        conv => lhs; whnf
        refine nextK_of c2 ?_
        conv => lhs; whnf
        refine nextK_of (loop_at hlp (hl _ rfl)) ?_
        conv => lhs; whnf
        refine iteK_dec (fun h1 => ?_) (fun h1 => ?_)
        · rw [dec_t h1]
          conv => lhs; whnf
          refine iteO_t (by kernel_rfl) ?_
          conv => lhs; whnf
          refine iteO_t (by kernel_rfl) ?_
          conv => lhs; whnf
          refine Eq.trans (b := some (Res.ret (AV.tuple [AV.agg [AV.d (D.str []), AV.d (D.list [])], AV.d (D.int IntKind.i64 (3 : Int))]), [])) (by kernel_rfl) ?_
          rfl
        · rw [dec_f h1]
          (exfalso; omega)
      · by_cases gc : ec = 0
        · obtain rfl := x4 rfl gl gc
          subst gc
          dsimp only
          rw [hav]
          clear hav
          generalize pl.map PlaceT.cells = R at *
          rw [icall_body rfl Try.func24]
          rw [← hlp]
          conv => lhs; whnf
          refine nextK_of c1 ?_
          conv => lhs; whnf
          refine nextK_of c2 ?_
          conv => lhs; whnf
          refine nextK_of (loop_at hlp (hl _ rfl)) ?_
          conv => lhs; whnf
          refine iteK_dec (fun h1 => ?_) (fun h1 => ?_)
          · rw [dec_t h1]
            (exfalso; omega)
          · rw [dec_f h1]
            conv => lhs; whnf
            refine nextK_of cd ?_
            conv => lhs; whnf
            refine Eq.trans (b := some (Res.ret (AV.tuple [AV.agg [AV.d (D.str v1), AV.d (D.list (List.take (List.length R) R))], AV.d (D.int IntKind.i64 (0 : Int))]), [])) (by kernel_rfl) ?_
            rfl
        · obtain rfl := x3 rfl gl gc
          clear hav
          generalize pl.map PlaceT.cells = R at *
          rw [icall_body rfl Try.func24]
          rw [← hlp]
          conv => lhs; whnf
          refine nextK_of c1 ?_
          conv => lhs; whnf
          refine nextK_of c2 ?_
          conv => lhs; whnf
          refine nextK_of (loop_at hlp (hl _ rfl)) ?_
          conv => lhs; whnf
          refine iteK_dec (fun h1 => ?_) (fun h1 => ?_)
          · rw [dec_t h1]
            (exfalso; omega)
          · rw [dec_f h1]
            conv => lhs; whnf
            refine nextK_of cd ?_
            conv => lhs; whnf
            refine iteK_bne_t gc ?_
            conv => lhs; whnf
            refine Eq.trans (b := some (Res.ret (AV.tuple [AV.agg [AV.d (D.str []), AV.d (D.list [])], AV.d (D.int IntKind.i64 ec)]), [])) (by kernel_rfl) ?_
            rfl
    · obtain rfl := x1 ge
      clear hav cd
      generalize pl.map PlaceT.cells = R at *
      rw [icall_body rfl Try.func24]
      rw [← hlp]
      conv => lhs; whnf
      refine nextK_of c1 ?_
      conv => lhs; whnf
      refine nextK_of c2 ?_
      conv => lhs; whnf
      refine nextK_of (loop_at hlp (hl _ rfl)) ?_
      conv => lhs; whnf
      refine iteK_beq_f ge ?_
      conv => lhs; whnf
      refine iteK_beq_f ge ?_
      conv => lhs; whnf
      refine iteK_beq_f ge ?_
      conv => lhs; whnf
      refine iteK_beq_f ge ?_
      conv => lhs; whnf
      refine iteK_beq_f ge ?_
      conv => lhs; whnf
      refine iteK_beq_f ge ?_
      conv => lhs; whnf
      refine iteK_beq_f ge ?_
      conv => lhs; whnf
      refine iteK_bne_t ge ?_
      conv => lhs; whnf
      refine iteO_t (by kernel_rfl) ?_
      conv => lhs; whnf
      refine iteO_t (by kernel_rfl) ?_
      conv => lhs; whnf
      refine Eq.trans (b := some (Res.ret (AV.tuple [AV.agg [AV.d (D.str []), AV.d (D.list [])], AV.d (D.int IntKind.i64 e3)]), [])) (by kernel_rfl) ?_
      rfl
end Go.Rx11
