/- A part of the proof of the law: what functions of the program come to, walked by Rx, or plain facts on it. -/
import Derived.Test.YtaghcidejnhahaaRFlows
open Go Go.Rx Go.Proofs Go.Rx12 Go.RxTree
set_option maxRecDepth 1000000
set_option maxHeartbeats 4000000
set_option linter.unusedVariables false
set_option linter.unusedSimpArgs false
namespace Go.Rx12
theorem check12L (j : Nat) (d : DefT) (hm : d.places.length ≤ maxLen)
    (ihf : ∀ p ∈ d.places, icall Try.prog cfg j 41 [p.av] [] = some (.ret (.d (.int .i64 (fieldsS p))), []))
    (ihw : ∀ p ∈ d.places, ∀ n : Int, icall Try.prog cfg j 42 [p.av, .d (.int .i64 n)] [] = some (.ret (.d (.int .i64 (flowsL p.kind n p.out))), [])) {lp : LP} (hlp : lp = lpOf Try.prog cfg (icall Try.prog cfg j) Try.f27.ntmps 27 j (([] : Hp).map (·.1))) :
    ∀ (m i : Nat) (z : Int)  (lf : Nat) (st : St), (d.places).length - i = m → i ≤ (d.places).length → z = (i : Int) → m < lf → prune [] [1, 23, 24, 25] st = some ⟨[(1, .ptr (.slot 1) 0), (23, .d (.list (d.places.map PlaceT.cells))), (24, .d (.int .i64 (d.places.map PlaceT.cells).length)), (25, .d (.int .i64 z))], [(.slot 1, .cells [.d (.str d.id), .d (.list (d.places.map PlaceT.cells))])]⟩ →
      loopK Try.prog cfg (icall Try.prog cfg j) lp Try.f27.ntmps 27 [] (bodyAt Try.f27 8) lf st (exitP [] (some [2])) = iteK (placesL ((d.places.map PlaceT.cells).length : Int) (decide (i = 0)) (d.places.drop i) == 0) (some (.exit 1, ⟨[(2, .undef)], []⟩)) (some (.ret, ⟨[(2, .d (.int .i64 (placesL ((d.places.map PlaceT.cells).length : Int) (decide (i = 0)) (d.places.drop i))))], []⟩)) := by
  intro m
  induction m with
  | zero =>
    intro i z  lf st hi hle hz  hlf hp
    obtain ⟨lf, rfl⟩ : ∃ n, lf = n + 1 := ⟨lf - 1, by omega⟩
    refine loop_step hp ?_
    have hend : ¬ z < ((d.places.map PlaceT.cells).length : Int) := by rw [List.length_map]; omega
    rw [List.drop_eq_nil_of_le (by omega)]
    conv => lhs; whnf
    refine iteK_dec_f hend ?_
    conv => lhs; whnf
    refine Eq.trans (b := some (Fx.exit (1 : Nat), St.mk [((2 : Nat), AV.undef)] [])) (by kernel_rfl) ?_
    rfl
  | succ m ihm =>
    intro i z  lf st hi hle hz  hlf hp
    obtain ⟨lf, rfl⟩ : ∃ n, lf = n + 1 := ⟨lf - 1, by omega⟩
    refine loop_step hp ?_
    have hend : z < ((d.places.map PlaceT.cells).length : Int) := by rw [List.length_map]; omega
    have hx : d.places[i]? = some d.places[i] := List.getElem?_eq_getElem (by omega)
    generalize d.places[i] = p at hx
    have hc := ihf p (List.mem_of_getElem? hx)
    have hd := ihw p (List.mem_of_getElem? hx)
    have hn : decide (i + 1 = 0) = false := dec_f (by omega)
    conv => lhs; whnf
    refine iteK_dec_t hend ?_
    conv => lhs; whnf
    refine nextK_of (aop_ix rfl rfl rfl rfl (ixL_at' hz (place_get hx) rfl)) ?_
    conv => lhs; whnf
    refine nextK_of hc ?_
    conv => lhs; whnf
    refine iteK_bne (fun h1 => ?_) (fun h1 => ?_)
    · rw [bne_t h1]
      conv => lhs; whnf
      refine Eq.trans (b := some (Fx.ret, St.mk [((2 : Nat), AV.d (D.int IntKind.i64 (fieldsS p)))] [])) (by kernel_rfl) ?_
      (rw [placesL_1 hx (by assumption), iteK_f (beq_f (by assumption)) rfl])
    · rw [bne_f h1]
      conv => lhs; whnf
      refine iteK_not ?_
      conv => lhs; whnf
      refine iteK_beq (fun h2 => ?_) (fun h2 => ?_)
      · rw [beq_t h2]
        conv => lhs; whnf
        refine nextK_of (hd _) ?_
        conv => lhs; whnf
        refine iteK_bne (fun h3 => ?_) (fun h3 => ?_)
        · rw [bne_t h3]
          conv => lhs; whnf
          refine Eq.trans (b := some (Fx.ret, St.mk [((2 : Nat), AV.d (D.int IntKind.i64 (flowsL p.kind (↑(List.length (List.map PlaceT.cells d.places))) p.out)))] [])) (by kernel_rfl) ?_
          ((try simp only [bb_eq, bb_ne] at *); rw [placesL_3 hx (by assumption) (dd_eq (by omega)) (by assumption), iteK_f (beq_f (by assumption)) rfl])
        · rw [bne_f h3]
          conv => lhs; whnf
          refine Eq.trans (ihm (i + 1) _ lf _ (by omega) (by omega) (wrap_up hz (by omega)) (by omega) rfl) ?_
          ((try simp only [bb_eq, bb_ne] at *); rw [placesL_4 hx (by assumption) (dd_eq (by omega)) (by assumption), hn])
      · rw [beq_f h2]
        conv => lhs; whnf
        refine Eq.trans (b := some (Fx.ret, St.mk [((2 : Nat), AV.d (D.int IntKind.i64 (8 : Int)))] [])) (by kernel_rfl) ?_
        ((try simp only [bb_eq, bb_ne] at *); rw [placesL_2 hx (by assumption) (dd_ne (by omega))]; rfl)
theorem check12 (d : DefT) (hs : d.Sm) (ho : d.Ok) (k : Nat) (hk : d.wt ≤ k) : icall Try.prog cfg k 27 [d.av] [] = some (.ret (.d (.int .i64 (checkD d))), []) := by
  obtain ⟨g1, g2, g3⟩ := ho
  obtain ⟨s1, s2⟩ := hs
  unfold DefT.wt at hk
  have hwp := wtS_len (w := PlaceT.wt) d.places
  have hl : (d.places.map PlaceT.cells).length = d.places.length := List.length_map ..
  obtain ⟨k, rfl⟩ : ∃ j, k = j + 1 := ⟨k - 1, by omega⟩
  show icall Try.prog cfg _ _ [.agg [.d (.str d.id), .d (.list (d.places.map PlaceT.cells))]] [] = _
  rw [icall_body rfl Try.func27]
  obtain ⟨lp, hlp⟩ : ∃ lp, lp = lpOf Try.prog cfg (icall Try.prog cfg k) Try.f27.ntmps 27 k (([] : Hp).map (·.1)) := ⟨_, rfl⟩
  rw [← hlp]
  conv => lhs; whnf
  refine nextK_b (packName_w d.id (by unfold lim; omega) k (by omega)) (fun h1 => ?_) (fun h1 => ?_)
  · conv => lhs; whnf
    refine iteK_dec (fun h2 => ?_) (fun h2 => ?_)
    · rw [dec_t h2]
      conv => lhs; whnf
      refine Eq.trans (b := some (Res.ret (AV.d (D.int IntKind.i64 (6 : Int))), [])) (by kernel_rfl) ?_
      exact ret_i (by unfold checkD; rw [if_neg (by simp [*]), if_pos (by omega)])
    · rw [dec_f h2]
      conv => lhs; whnf
      refine iteK_beq (fun h3 => ?_) (fun h3 => ?_)
      · rw [beq_t h3]
        conv => lhs; whnf
        refine Eq.trans (b := some (Res.ret (AV.d (D.int IntKind.i64 (8 : Int))), [])) (by kernel_rfl) ?_
        exact ret_i (by unfold checkD; rw [if_neg (by simp [*]), if_neg (by omega), if_pos (by omega)])
      · rw [beq_f h3]
        conv => lhs; whnf
        refine nextK_ite (loop_at hlp (check12L k d g2 (fun p hp => fields31 p (s2 p hp) (g3 p hp) k (by have := wtS_mem (w := PlaceT.wt) d.places p hp; omega)) (fun p hp n => flows32 p n (s2 p hp) (g3 p hp) k (by have := wtS_mem (w := PlaceT.wt) d.places p hp; omega)) hlp d.places.length 0 0 k _ rfl (Nat.zero_le _) rfl (by omega) rfl)) ?_
        conv => lhs; whnf
        refine iteK_beq (fun h4 => ?_) (fun h4 => ?_)
        · conv => lhs; whnf
          refine Eq.trans (b := some (Res.ret (AV.d (D.int IntKind.i64 (0 : Int))), [])) (by kernel_rfl) ?_
          exact ret_i (by unfold checkD; rw [if_neg (by simp [*]), if_neg (by omega), if_neg (by omega)]; rw [hl] at h4; exact h4.symm)
        · conv => lhs; whnf
          refine Eq.trans (b := some (Res.ret (AV.d (D.int IntKind.i64 (placesL (↑(List.length (List.map PlaceT.cells d.places))) (decide ((0 : Nat) = (0 : Nat))) d.places))), [])) (by kernel_rfl) ?_
          exact ret_i (by unfold checkD; rw [if_neg (by simp [*]), if_neg (by omega), if_neg (by omega)]; rw [hl]; rfl)
  · conv => lhs; whnf
    refine Eq.trans (b := some (Res.ret (AV.d (D.int IntKind.i64 (1 : Int))), [])) (by kernel_rfl) ?_
    exact ret_i (by unfold checkD; rw [if_pos (by assumption)])
theorem check13L (j : Nat) (d : DefT) (hm : d.places.length ≤ maxLen)
    (ihf : ∀ p ∈ d.places, icall Try.prog cfg j 35 [p.av] [] = some (.ret (.d (.int .i64 (fieldsS p))), []))
    (ihw : ∀ p ∈ d.places, ∀ n : Int, icall Try.prog cfg j 36 [p.av, .d (.int .i64 n)] [] = some (.ret (.d (.int .i64 (flowsL p.kind n p.out))), [])) {lp : LP} (hlp : lp = lpOf Try.prog cfg (icall Try.prog cfg j) Try.f22.ntmps 22 j (([] : Hp).map (·.1))) :
    ∀ (m i : Nat) (z : Int)  (lf : Nat) (st : St), (d.places).length - i = m → i ≤ (d.places).length → z = (i : Int) → m < lf → prune [] [1, 3] st = some ⟨[(1, .ptr (.slot 1) 0), (3, .d (.int .i64 z))], [(.slot 1, .cells [.d (.str d.id), .d (.list (d.places.map PlaceT.cells))])]⟩ →
      loopK Try.prog cfg (icall Try.prog cfg j) lp Try.f22.ntmps 22 [] (bodyAt Try.f22 8) lf st (exitP [] (some [2])) = iteK (placesL ((d.places.map PlaceT.cells).length : Int) (decide (i = 0)) (d.places.drop i) == 0) (some (.exit 0, ⟨[(2, .undef)], []⟩)) (some (.ret, ⟨[(2, .d (.int .i64 (placesL ((d.places.map PlaceT.cells).length : Int) (decide (i = 0)) (d.places.drop i))))], []⟩)) := by
  intro m
  induction m with
  | zero =>
    intro i z  lf st hi hle hz  hlf hp
    obtain ⟨lf, rfl⟩ : ∃ n, lf = n + 1 := ⟨lf - 1, by omega⟩
    refine loop_step hp ?_
    have hend : ¬ z < ((d.places.map PlaceT.cells).length : Int) := by rw [List.length_map]; omega
    rw [List.drop_eq_nil_of_le (by omega)]
    conv => lhs; whnf
    refine iteK_dec_f hend ?_
    conv => lhs; whnf
    refine Eq.trans (b := some (Fx.exit (0 : Nat), St.mk [((2 : Nat), AV.undef)] [])) (by kernel_rfl) ?_
    rfl
  | succ m ihm =>
    intro i z  lf st hi hle hz  hlf hp
    obtain ⟨lf, rfl⟩ : ∃ n, lf = n + 1 := ⟨lf - 1, by omega⟩
    refine loop_step hp ?_
    have hend : z < ((d.places.map PlaceT.cells).length : Int) := by rw [List.length_map]; omega
    have hx : d.places[i]? = some d.places[i] := List.getElem?_eq_getElem (by omega)
    generalize d.places[i] = p at hx
    have hc := ihf p (List.mem_of_getElem? hx)
    have hd := ihw p (List.mem_of_getElem? hx)
    have hn : decide (i + 1 = 0) = false := dec_f (by omega)
    conv => lhs; whnf
    refine iteK_dec_t hend ?_
    conv => lhs; whnf
    refine nextK_of (aop_ix rfl rfl rfl rfl (ixL_at' hz (place_get hx) rfl)) ?_
    conv => lhs; whnf
    refine nextK_of hc ?_
    conv => lhs; whnf
    refine iteK_bne (fun h1 => ?_) (fun h1 => ?_)
    · rw [bne_t h1]
      conv => lhs; whnf
      refine Eq.trans (b := some (Fx.ret, St.mk [((2 : Nat), AV.d (D.int IntKind.i64 (fieldsS p)))] [])) (by kernel_rfl) ?_
      (rw [placesL_1 hx (by assumption), iteK_f (beq_f (by assumption)) rfl])
    · rw [bne_f h1]
      conv => lhs; whnf
      refine nextK_of (aop_ix rfl rfl rfl rfl (ixL_at' hz (place_get hx) rfl)) ?_
      conv => lhs; whnf
      refine iteK_beq (fun h2 => ?_) (fun h2 => ?_)
      · rw [beq_t h2]
        conv => lhs; whnf
        refine iteK_dec (fun h3 => ?_) (fun h3 => ?_)
        · rw [dec_t h3]
          conv => lhs; whnf
          refine Eq.trans (b := some (Fx.ret, St.mk [((2 : Nat), AV.d (D.int IntKind.i64 (8 : Int)))] [])) (by kernel_rfl) ?_
          ((try simp only [bb_eq, bb_ne] at *); rw [placesL_2 hx (by assumption) (dd_ne (by omega))]; rfl)
        · rw [dec_f h3]
          conv => lhs; whnf
          refine iteO_t (by kernel_rfl) ?_
          conv => lhs; whnf
          refine nextK_of (aop_ix rfl rfl rfl rfl (ixL_at' hz (place_get hx) rfl)) ?_
          conv => lhs; whnf
          refine nextK_of (hd _) ?_
          conv => lhs; whnf
          refine iteO_t (by kernel_rfl) ?_
          conv => lhs; whnf
          refine iteK_bne (fun h4 => ?_) (fun h4 => ?_)
          · rw [bne_t h4]
            conv => lhs; whnf
            refine Eq.trans (b := some (Fx.ret, St.mk [((2 : Nat), AV.d (D.int IntKind.i64 (flowsL p.kind (↑(List.length (List.map PlaceT.cells d.places))) p.out)))] [])) (by kernel_rfl) ?_
            ((try simp only [bb_eq, bb_ne] at *); rw [placesL_3 hx (by assumption) (dd_eq (by omega)) (by assumption), iteK_f (beq_f (by assumption)) rfl])
          · rw [bne_f h4]
            conv => lhs; whnf
            refine Eq.trans (ihm (i + 1) _ lf _ (by omega) (by omega) (wrap_up hz (by omega)) (by omega) rfl) ?_
            ((try simp only [bb_eq, bb_ne] at *); rw [placesL_4 hx (by assumption) (dd_eq (by omega)) (by assumption), hn])
      · rw [beq_f h2]
        conv => lhs; whnf
        refine iteK_beq (fun h3 => ?_) (fun h3 => ?_)
        · obtain rfl : z = (0 : Int) := h3
          conv => lhs; whnf
          refine Eq.trans (b := some (Fx.ret, St.mk [((2 : Nat), AV.d (D.int IntKind.i64 (8 : Int)))] [])) (by kernel_rfl) ?_
          ((try simp only [bb_eq, bb_ne] at *); rw [placesL_2 hx (by assumption) (dd_ne (by omega))]; rfl)
        · rw [beq_f h3]
          conv => lhs; whnf
          refine iteO_t (by kernel_rfl) ?_
          conv => lhs; whnf
          refine nextK_of (aop_ix rfl rfl rfl rfl (ixL_at' hz (place_get hx) rfl)) ?_
          conv => lhs; whnf
          refine nextK_of (hd _) ?_
          conv => lhs; whnf
          refine iteO_t (by kernel_rfl) ?_
          conv => lhs; whnf
          refine iteK_bne (fun h4 => ?_) (fun h4 => ?_)
          · rw [bne_t h4]
            conv => lhs; whnf
            refine Eq.trans (b := some (Fx.ret, St.mk [((2 : Nat), AV.d (D.int IntKind.i64 (flowsL p.kind (↑(List.length (List.map PlaceT.cells d.places))) p.out)))] [])) (by kernel_rfl) ?_
            ((try simp only [bb_eq, bb_ne] at *); rw [placesL_3 hx (by assumption) (dd_eq (by omega)) (by assumption), iteK_f (beq_f (by assumption)) rfl])
          · rw [bne_f h4]
            conv => lhs; whnf
            refine Eq.trans (ihm (i + 1) _ lf _ (by omega) (by omega) (wrap_up hz (by omega)) (by omega) rfl) ?_
            ((try simp only [bb_eq, bb_ne] at *); rw [placesL_4 hx (by assumption) (dd_eq (by omega)) (by assumption), hn])
theorem check13 (d : DefT) (hs : d.Sm) (ho : d.Ok) (k : Nat) (hk : d.wt ≤ k) : icall Try.prog cfg k 22 [d.av] [] = some (.ret (.d (.int .i64 (checkD d))), []) := by
  obtain ⟨g1, g2, g3⟩ := ho
  obtain ⟨s1, s2⟩ := hs
  unfold DefT.wt at hk
  have hwp := wtS_len (w := PlaceT.wt) d.places
  have hl : (d.places.map PlaceT.cells).length = d.places.length := List.length_map ..
  obtain ⟨k, rfl⟩ : ∃ j, k = j + 1 := ⟨k - 1, by omega⟩
  show icall Try.prog cfg _ _ [.agg [.d (.str d.id), .d (.list (d.places.map PlaceT.cells))]] [] = _
  rw [icall_body rfl Try.func22]
  obtain ⟨lp, hlp⟩ : ∃ lp, lp = lpOf Try.prog cfg (icall Try.prog cfg k) Try.f22.ntmps 22 k (([] : Hp).map (·.1)) := ⟨_, rfl⟩
  rw [← hlp]
  conv => lhs; whnf
  refine nextK_b (refName_w d.id (by unfold lim; omega) k (by omega)) (fun h1 => ?_) (fun h1 => ?_)
  · conv => lhs; whnf
    refine iteK_dec (fun h2 => ?_) (fun h2 => ?_)
    · rw [dec_t h2]
      conv => lhs; whnf
      refine Eq.trans (b := some (Res.ret (AV.d (D.int IntKind.i64 (6 : Int))), [])) (by kernel_rfl) ?_
      exact ret_i (by unfold checkD; rw [if_neg (by simp [*]), if_pos (by omega)])
    · rw [dec_f h2]
      conv => lhs; whnf
      refine iteK_beq (fun h3 => ?_) (fun h3 => ?_)
      · rw [beq_t h3]
        conv => lhs; whnf
        refine Eq.trans (b := some (Res.ret (AV.d (D.int IntKind.i64 (8 : Int))), [])) (by kernel_rfl) ?_
        exact ret_i (by unfold checkD; rw [if_neg (by simp [*]), if_neg (by omega), if_pos (by omega)])
      · rw [beq_f h3]
        conv => lhs; whnf
        refine nextK_ite (loop_at hlp (check13L k d g2 (fun p hp => fields34 p (s2 p hp) (g3 p hp) k (by have := wtS_mem (w := PlaceT.wt) d.places p hp; omega)) (fun p hp n => flows35 p n (s2 p hp) (g3 p hp) k (by have := wtS_mem (w := PlaceT.wt) d.places p hp; omega)) hlp d.places.length 0 0 k _ rfl (Nat.zero_le _) rfl (by omega) rfl)) ?_
        conv => lhs; whnf
        refine iteK_beq (fun h4 => ?_) (fun h4 => ?_)
        · conv => lhs; whnf
          refine Eq.trans (b := some (Res.ret (AV.d (D.int IntKind.i64 (0 : Int))), [])) (by kernel_rfl) ?_
          exact ret_i (by unfold checkD; rw [if_neg (by simp [*]), if_neg (by omega), if_neg (by omega)]; rw [hl] at h4; exact h4.symm)
        · conv => lhs; whnf
          refine Eq.trans (b := some (Res.ret (AV.d (D.int IntKind.i64 (placesL (↑(List.length (List.map PlaceT.cells d.places))) (decide ((0 : Nat) = (0 : Nat))) d.places))), [])) (by kernel_rfl) ?_
          exact ret_i (by unfold checkD; rw [if_neg (by simp [*]), if_neg (by omega), if_neg (by omega)]; rw [hl]; rfl)
  · conv => lhs; whnf
    refine Eq.trans (b := some (Res.ret (AV.d (D.int IntKind.i64 (1 : Int))), [])) (by kernel_rfl) ?_
    exact ret_i (by unfold checkD; rw [if_pos (by assumption)])
end Go.Rx12
