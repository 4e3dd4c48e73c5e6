/- A part of the proof of the law: what functions of the program come to, walked by Rx, or plain facts on it. -/
import Derived.Test.YtaghcidejnhahaaRLawShapes
import Derived.Test.YtaghcidejnhahaaRJ1
open Go Go.Rx Go.Proofs Go.Rx12 Go.RxTree
set_option maxRecDepth 1000000
set_option maxHeartbeats 4000000
set_option linter.unusedVariables false
set_option linter.unusedSimpArgs false
namespace Go.Rx12
abbrev serH (id : List UInt8) (pl : List (List D)) : Hp := [(.slot 1, .cells [.d (.str id), .d (.list pl)])]
theorem serL1 (id : List UInt8) (ps : List PlaceT) (n : Nat) (hps : ps.length = n) (hn : n ≤ 4096) (j : Nat) (hj : 100 < j) {lp : LP} (hlp : lp = lpOf Try.prog cfg (icall Try.prog cfg j) Try.f7.ntmps 7 j (([] : Hp).map (·.1))) :
    ∀ (m i : Nat) (z : Int) (lf : Nat) (st : St), ps.length - i = m → i ≤ ps.length → z = (i : Int) → m < lf → prune [] [1, 3] st = some ⟨[(1, .ptr (.slot 1) 0), (3, .d (.int .i64 z))], serH id (ps.map PlaceT.cells)⟩ →
      loopK Try.prog cfg (icall Try.prog cfg j) lp Try.f7.ntmps 7 [] (bodyAt Try.f7 4) lf st (exitP [] (some [1, 2])) =
        iteK (noFJ (ps.drop i)) (some (.exit 0, ⟨[(1, .ptr (.slot 1) 0), (2, .undef)], serH id (ps.map PlaceT.cells)⟩)) (some (.ret, ⟨[(1, .ptr (.slot 1) 0), (2, .d (.bool true))], serH id (ps.map PlaceT.cells)⟩)) := by
  have hmx : 10000 ≤ maxLen := by decide
  intro m
  induction m with
  | zero =>
    intro i z lf st hi hle hz hlf hp
    obtain ⟨lf, rfl⟩ : ∃ n, lf = n + 1 := ⟨lf - 1, by omega⟩
    have hend : ¬ z < ((ps.map PlaceT.cells).length : Int) := by rw [List.length_map]; omega
    rw [List.drop_eq_nil_of_le (by omega), noFJ]
    generalize hpc : ps.map PlaceT.cells = pl at *
    refine loop_step hp ?_
    conv => lhs; whnf
    refine iteK_dec_f hend ?_
    conv => lhs; whnf
    refine Eq.trans (b := some (Fx.exit (0 : Nat), St.mk [((1 : Nat), AV.ptr (Nm.slot (1 : Nat)) (0 : Nat)), ((2 : Nat), AV.undef)] [(Nm.slot (1 : Nat), AObj.cells [AV.d (D.str id), AV.d (D.list pl)])])) (by kernel_rfl) ?_
    rfl
  | succ m ihm =>
    intro i z lf st hi hle hz hlf hp
    obtain ⟨lf, rfl⟩ : ∃ n, lf = n + 1 := ⟨lf - 1, by omega⟩
    have hend : z < ((ps.map PlaceT.cells).length : Int) := by rw [List.length_map]; omega
    have hx : ps[i]? = some ps[i] := List.getElem?_eq_getElem (by omega)
    rw [List.drop_eq_getElem_cons (by omega), noFJ]
    generalize ps[i] = p at hx ⊢
    have hpg := place_get hx
    have hih := fun lf st => ihm (i + 1) (IntKind.i64.wrap (z + 1)) lf st (by omega) (by omega) (wrap_up hz (by omega))
    obtain ⟨kd, nm, nv, ar, ou⟩ := p
    dsimp only at *
    generalize noFJ (ps.drop (i + 1)) = q at *
    generalize hpc : ps.map PlaceT.cells = pl at *
    by_cases g4 : kd = 4
    · subst g4
      rw [if_pos (show fjP ⟨4, nm, nv, ar, ou⟩ = true from rfl)]
      refine loop_step hp ?_
      conv => lhs; whnf
      refine iteK_dec_t hend ?_
      conv => lhs; whnf
      refine nextK_of (aop_ix rfl rfl rfl rfl (ixL_at' hz hpg rfl)) ?_
      conv => lhs; whnf
      refine nextK_of (works12 j (by omega)) ?_
      conv => lhs; whnf
      refine Eq.trans (b := some (Fx.ret, St.mk [((1 : Nat), AV.ptr (Nm.slot (1 : Nat)) (0 : Nat)), ((2 : Nat), AV.d (D.bool true))] [(Nm.slot (1 : Nat), AObj.cells [AV.d (D.str id), AV.d (D.list pl)])])) (by kernel_rfl) ?_
      rfl
    · by_cases g5 : kd = 5
      · subst g5
        rw [if_pos (show fjP ⟨5, nm, nv, ar, ou⟩ = true from rfl)]
        refine loop_step hp ?_
        conv => lhs; whnf
        refine iteK_dec_t hend ?_
        conv => lhs; whnf
        refine nextK_of (aop_ix rfl rfl rfl rfl (ixL_at' hz hpg rfl)) ?_
        conv => lhs; whnf
        refine nextK_of (aop_ix rfl rfl rfl rfl (ixL_at' hz hpg rfl)) ?_
        conv => lhs; whnf
        refine nextK_of (works12 j (by omega)) ?_
        conv => lhs; whnf
        refine Eq.trans (b := some (Fx.ret, St.mk [((1 : Nat), AV.ptr (Nm.slot (1 : Nat)) (0 : Nat)), ((2 : Nat), AV.d (D.bool true))] [(Nm.slot (1 : Nat), AObj.cells [AV.d (D.str id), AV.d (D.list pl)])])) (by kernel_rfl) ?_
        rfl
      · rw [if_neg (by simp [fjP, g4, g5])]
        refine loop_step hp ?_
        conv => lhs; whnf
        refine iteK_dec_t hend ?_
        conv => lhs; whnf
        refine nextK_of (aop_ix rfl rfl rfl rfl (ixL_at' hz hpg rfl)) ?_
        conv => lhs; whnf
        refine iteK_beq_f g4 ?_
        conv => lhs; whnf
        refine iteK_beq_f g4 ?_
        conv => lhs; whnf
        refine iteK_beq_f g4 ?_
        conv => lhs; whnf
        refine iteK_beq_f g4 ?_
        conv => lhs; whnf
        refine nextK_of (aop_ix rfl rfl rfl rfl (ixL_at' hz hpg rfl)) ?_
        conv => lhs; whnf
        refine iteK_beq_f g4 ?_
        conv => lhs; whnf
        refine iteK_beq_f g4 ?_
        conv => lhs; whnf
        refine iteK_beq_f g4 ?_
        conv => lhs; whnf
        refine iteK_beq_f g4 ?_
        conv => lhs; whnf
        refine iteK_beq_f g5 ?_
        conv => lhs; whnf
        refine Eq.trans (hih lf _ (by omega) rfl) ?_
        rfl
theorem serL2 (id : List UInt8) (pl : List (List D)) (rs : List RowT) (n : Nat) (hrs : rs.length = n) (hn : n ≤ 4096) (j : Nat) (hj : 100 < j) {lp : LP} (hlp : lp = lpOf Try.prog cfg (icall Try.prog cfg j) Try.f7.ntmps 7 j (([] : Hp).map (·.1))) :
    ∀ (m i : Nat) (z : Int) (b : Bool) (lf : Nat) (st : St), rs.length - i = m → i ≤ rs.length → z = (i : Int) → m < lf → prune [] [1, 4, 7, 8] st = some ⟨[(1, .ptr (.slot 1) 0), (4, .d (.list (rC rs))), (7, .d (.bool b)), (8, .d (.int .i64 z))], serH id pl⟩ →
      loopK Try.prog cfg (icall Try.prog cfg j) lp Try.f7.ntmps 7 [] (bodyAt Try.f7 11) lf st (exitP [] (some [1, 7])) =
        some (.exit 2, ⟨[(1, .ptr (.slot 1) 0), (7, .d (.bool (allM b (rs.drop i))))], serH id pl⟩) := by
  have hmx : 10000 ≤ maxLen := by decide
  intro m
  induction m with
  | zero =>
    intro i z b lf st hi hle hz hlf hp
    obtain ⟨lf, rfl⟩ : ∃ n, lf = n + 1 := ⟨lf - 1, by omega⟩
    have hend : ¬ z < ((rC rs).length : Int) := by rw [rC_len]; omega
    rw [List.drop_eq_nil_of_le (by omega), allM]
    refine loop_step hp ?_
    conv => lhs; whnf
    refine iteK_dec_f hend ?_
    conv => lhs; whnf
    refine Eq.trans (b := some (Fx.exit (2 : Nat), St.mk [((1 : Nat), AV.ptr (Nm.slot (1 : Nat)) (0 : Nat)), ((7 : Nat), AV.d (D.bool b))] [(Nm.slot (1 : Nat), AObj.cells [AV.d (D.str id), AV.d (D.list pl)])])) (by kernel_rfl) ?_
    rfl
  | succ m ihm =>
    intro i z b lf st hi hle hz hlf hp
    obtain ⟨lf, rfl⟩ : ∃ n, lf = n + 1 := ⟨lf - 1, by omega⟩
    have hend : z < ((rC rs).length : Int) := by rw [rC_len]; omega
    have hx : rs[i]? = some rs[i] := List.getElem?_eq_getElem (by omega)
    rw [List.drop_eq_getElem_cons (by omega), allM]
    generalize rs[i] = r at hx ⊢
    obtain ⟨c, fs⟩ := r
    have hrg := rC_get hx
    have hih := fun b lf st => ihm (i + 1) (IntKind.i64.wrap (z + 1)) b lf st (by omega) (by omega) (wrap_up hz (by omega))
    dsimp only
    cases b with
    | false =>
      rw [Bool.false_and]
      have hih := hih false
      generalize allM false (rs.drop (i + 1)) = q at *
      refine loop_step hp ?_
      conv => lhs; whnf
      refine iteK_dec_t hend ?_
      conv => lhs; whnf
      refine Eq.trans (hih lf _ (by omega) rfl) ?_
      rfl
    | true =>
      rw [Bool.true_and]
      have hih := hih c
      generalize allM c (rs.drop (i + 1)) = q at *
      cases c with
      | false =>
        refine loop_step hp ?_
        conv => lhs; whnf
        refine iteK_dec_t hend ?_
        conv => lhs; whnf
        refine nextK_of (aop_ix rfl rfl rfl rfl (ixL_at' hz hrg rfl)) ?_
        conv => lhs; whnf
        refine Eq.trans (hih lf _ (by omega) rfl) ?_
        rfl
      | true =>
        refine loop_step hp ?_
        conv => lhs; whnf
        refine iteK_dec_t hend ?_
        conv => lhs; whnf
        refine nextK_of (aop_ix rfl rfl rfl rfl (ixL_at' hz hrg rfl)) ?_
        conv => lhs; whnf
        refine Eq.trans (hih lf _ (by omega) rfl) ?_
        rfl
theorem law7_n (d : DefT) (ho : d.Ok) (hs : d.Sm) (k : Nat) (hk : d.wt + 120000 < k) (hl : decide (weightD d 600 ≤ 600) = false) : icall Try.prog cfg k 7 [d.av] [] = some (.ret (.d (.bool true)), []) := by
  obtain ⟨k, rfl⟩ : ∃ j, k = j + 1 := ⟨k - 1, by omega⟩
  have c1 := light12 d ho hs k (by omega)
  rw [hl] at c1
  show icall Try.prog cfg _ _ [.agg [.d (.str d.id), .d (.list (d.places.map PlaceT.cells))]] [] = _
  rw [icall_body rfl Try.func7]
  obtain ⟨lp, hlp⟩ : ∃ lp, lp = lpOf Try.prog cfg (icall Try.prog cfg k) Try.f7.ntmps 7 k (([] : Hp).map (·.1)) := ⟨_, rfl⟩
  rw [← hlp]
  conv => lhs; whnf
  refine nextK_of c1 ?_
  conv => lhs; whnf
  refine nextK_of (works12 k (by omega)) ?_
  conv => lhs; whnf
  refine Eq.trans (b := some (Res.ret (AV.d (D.bool true)), [])) (by kernel_rfl) ?_
  rfl
theorem law7_c (d : DefT) (ho : d.Ok) (hs : d.Sm) (k : Nat) (hk : d.wt + 120000 < k) (hl : decide (weightD d 600 ≤ 600) = true) (hc : checkD d ≠ 0) : icall Try.prog cfg k 7 [d.av] [] = some (.ret (.d (.bool true)), []) := by
  obtain ⟨k, rfl⟩ : ∃ j, k = j + 1 := ⟨k - 1, by omega⟩
  have c1 := light12 d ho hs k (by omega)
  have c2 := check13 d hs ho k (by omega)
  rw [hl] at c1
  generalize checkD d = e at *
  show icall Try.prog cfg _ _ [.agg [.d (.str d.id), .d (.list (d.places.map PlaceT.cells))]] [] = _
  rw [icall_body rfl Try.func7]
  obtain ⟨lp, hlp⟩ : ∃ lp, lp = lpOf Try.prog cfg (icall Try.prog cfg k) Try.f7.ntmps 7 k (([] : Hp).map (·.1)) := ⟨_, rfl⟩
  rw [← hlp]
  conv => lhs; whnf
  refine nextK_of c1 ?_
  conv => lhs; whnf
  refine nextK_of c2 ?_
  conv => lhs; whnf
  refine iteK_bne_t hc ?_
  conv => lhs; whnf
  refine nextK_of (works12 k (by omega)) ?_
  conv => lhs; whnf
  refine Eq.trans (b := some (Res.ret (AV.d (D.bool true)), [])) (by kernel_rfl) ?_
  rfl
theorem law7_k (d : DefT) (ho : d.Ok) (hs : d.Sm) (k : Nat) (hk : d.wt + 120000 < k) (hl : decide (weightD d 600 ≤ 600) = true) (hc : checkD d = 0) (hf : noFJ d.places = false) : icall Try.prog cfg k 7 [d.av] [] = some (.ret (.d (.bool true)), []) := by
  obtain ⟨k, rfl⟩ : ∃ j, k = j + 1 := ⟨k - 1, by omega⟩
  have c1 := light12 d ho hs k (by omega)
  have c2 := check13 d hs ho k (by omega)
  rw [hl] at c1
  rw [hc] at c2
  obtain ⟨n1, n2, _⟩ := check_ok hc
  have hL := fun lf st => serL1 d.id d.places d.places.length rfl n1 k (by omega) rfl d.places.length 0 0 lf st (by omega) (by omega) rfl
  rw [List.drop_zero, hf] at hL
  show icall Try.prog cfg _ _ [.agg [.d (.str d.id), .d (.list (d.places.map PlaceT.cells))]] [] = _
  rw [icall_body rfl Try.func7]
  obtain ⟨lp, hlp⟩ : ∃ lp, lp = lpOf Try.prog cfg (icall Try.prog cfg k) Try.f7.ntmps 7 k (([] : Hp).map (·.1)) := ⟨_, rfl⟩
  rw [← hlp]
  rw [← (show lp = lpOf Try.prog cfg (icall Try.prog cfg k) Try.f7.ntmps 7 k (([] : Hp).map (·.1)) from hlp)] at hL
  conv => lhs; whnf
  refine nextK_of c1 ?_
  conv => lhs; whnf
  refine nextK_of c2 ?_
  conv => lhs; whnf
  refine nextK_ite (loop_at hlp (hL k _ (by omega) rfl)) ?_
  conv => lhs; whnf
  refine Eq.trans (b := some (Res.ret (AV.d (D.bool true)), [])) (by kernel_rfl) ?_
  rfl
theorem law7_s (d : DefT) (ho : d.Ok) (hs : d.Sm) (k : Nat) (hk : d.wt + 120000 < k) (hl : decide (weightD d 600 ≤ 600) = true) (hc : checkD d = 0) (hf : noFJ d.places = true) : icall Try.prog cfg k 7 [d.av] [] = some (.ret (.d (.bool true)), []) := by
  obtain ⟨k, rfl⟩ : ∃ j, k = j + 1 := ⟨k - 1, by omega⟩
  have c1 := light12 d ho hs k (by omega)
  have c2 := check13 d hs ho k (by omega)
  rw [hl] at c1
  rw [hc] at c2
  obtain ⟨n1, n2, _⟩ := check_ok hc
  have c3 := rows23 d.id d.places d.places.length rfl n1 n2 (check_out hc) k (by omega)
  have c4 := of10 d hs ho k (by omega)
  have hlaw := ser_law hc hf
  have hok := rowsR_ok (ps := d.places) n2 (fun p hp => (check_out hc p hp).1)
  have hrl := hok.len.1
  clear hok
  have hL := fun lf st => serL1 d.id d.places d.places.length rfl n1 k (by omega) rfl d.places.length 0 0 lf st (by omega) (by omega) rfl
  rw [List.drop_zero, hf] at hL
  generalize (rowsR d.places).1.joins = js at *
  generalize (rowsR d.places).2 = e2 at *
  generalize (rowsR d.places).1.rows = rs at *
  have hM := fun lf st => serL2 d.id (d.places.map PlaceT.cells) rs d.places.length hrl n1 k (by omega) rfl d.places.length 0 0 true lf st (by omega) (by omega) rfl
  rw [List.drop_zero] at hM
  unfold shV at c4
  generalize ofErr d = e at *
  generalize ofFork d = x1 at *
  generalize ofDeep d = x2 at *
  generalize ofJoin d = x3 at *
  show icall Try.prog cfg _ _ [.agg [.d (.str d.id), .d (.list (d.places.map PlaceT.cells))]] [] = _
  cases hall : allM true rs with
  | true =>
    rw [hall] at hM hlaw
    rw [if_pos rfl] at hlaw
    subst hlaw
    rw [icall_body rfl Try.func7]
    obtain ⟨lp, hlp⟩ : ∃ lp, lp = lpOf Try.prog cfg (icall Try.prog cfg k) Try.f7.ntmps 7 k (([] : Hp).map (·.1)) := ⟨_, rfl⟩
    rw [← hlp]
    rw [← (show lp = lpOf Try.prog cfg (icall Try.prog cfg k) Try.f7.ntmps 7 k (([] : Hp).map (·.1)) from hlp)] at hL hM
    conv => lhs; whnf
    refine nextK_of c1 ?_
    conv => lhs; whnf
    refine nextK_of c2 ?_
    conv => lhs; whnf
    refine nextK_ite (loop_at hlp (hL k _ (by omega) rfl)) ?_
    conv => lhs; whnf
    refine nextK_of c3 ?_
    conv => lhs; whnf
    refine nextK_of (loop_at hlp (hM k _ (by omega) rfl)) ?_
    conv => lhs; whnf
    refine nextK_of c4 ?_
    conv => lhs; whnf
    refine nextK_of (works12 k (by omega)) ?_
    conv => lhs; whnf
    refine Eq.trans (b := some (Res.ret (AV.d (D.bool true)), [])) (by kernel_rfl) ?_
    rfl
  | false =>
    rw [hall] at hM hlaw
    rw [if_neg Bool.false_ne_true] at hlaw
    subst hlaw
    rw [icall_body rfl Try.func7]
    obtain ⟨lp, hlp⟩ : ∃ lp, lp = lpOf Try.prog cfg (icall Try.prog cfg k) Try.f7.ntmps 7 k (([] : Hp).map (·.1)) := ⟨_, rfl⟩
    rw [← hlp]
    rw [← (show lp = lpOf Try.prog cfg (icall Try.prog cfg k) Try.f7.ntmps 7 k (([] : Hp).map (·.1)) from hlp)] at hL hM
    conv => lhs; whnf
    refine nextK_of c1 ?_
    conv => lhs; whnf
    refine nextK_of c2 ?_
    conv => lhs; whnf
    refine nextK_ite (loop_at hlp (hL k _ (by omega) rfl)) ?_
    conv => lhs; whnf
    refine nextK_of c3 ?_
    conv => lhs; whnf
    refine nextK_of (loop_at hlp (hM k _ (by omega) rfl)) ?_
    conv => lhs; whnf
    refine nextK_of c4 ?_
    conv => lhs; whnf
    refine nextK_of (works12 k (by omega)) ?_
    conv => lhs; whnf
    refine Eq.trans (b := some (Res.ret (AV.d (D.bool true)), [])) (by kernel_rfl) ?_
    rfl
theorem law7 (d : DefT) (ho : d.Ok) (hs : d.Sm) (k : Nat) (hk : d.wt + 120000 < k) : icall Try.prog cfg k 7 [d.av] [] = some (.ret (.d (.bool true)), []) := by
  by_cases hl : decide (weightD d 600 ≤ 600) = true
  · by_cases hc : checkD d = 0
    · by_cases hf : noFJ d.places = true
      · exact law7_s d ho hs k hk hl hc hf
      · exact law7_k d ho hs k hk hl hc (by simpa using hf)
    · exact law7_c d ho hs k hk hl hc
  · exact law7_n d ho hs k hk (by simpa using hl)
end Go.Rx12
