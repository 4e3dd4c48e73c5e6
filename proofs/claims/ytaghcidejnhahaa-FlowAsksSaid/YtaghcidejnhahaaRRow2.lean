/- A part of the proof of the law: what functions of the program come to, walked by Rx, or plain facts on it. -/
import Derived.Test.YtaghcidejnhahaaRRow1
import Derived.Test.YtaghcidejnhahaaRFlow6
open Go Go.Rx Go.Proofs Go.Rx12 Go.RxTree
set_option maxRecDepth 1000000
set_option maxHeartbeats 4000000
set_option linter.unusedVariables false
set_option linter.unusedSimpArgs false
namespace Go.Rx12
theorem lenM33 {n : Nat} (h : n ≤ 1000000) : n * (32 + 1) ≤ lim := by unfold lim; omega
abbrev rwH (id : List UInt8) (pl : List (List D)) (rs : List (List D)) (js od : List (List D)) : Hp :=
  [(.slot 1, .cells [.d (.str id), .d (.list pl)]), (.slot 19, .arr 61 2 0 rs), (.slot 23, .arr 3 1 0 js), (.slot 27, .arr 3 1 0 od)]
abbrev rwSt (id : List UInt8) (pl : List (List D)) (n : Nat) (rs : List (List D)) (js : List (List D)) (no : Nat) (od : List (List D)) (z8 : Int) : St := ⟨[(1, .ptr (.slot 1) 0), (5, .own (.slot 19) 0 n), (6, .own (.slot 23) 0 n), (7, .own (.slot 27) 0 no), (8, .d (.int .i64 z8))], rwH id pl rs js od⟩
abbrev roSt (id : List UInt8) (pl : List (List D)) (n : Nat) (rs : List (List D)) (js : List (List D)) (no : Nat) (od : List (List D)) (z8 : Int) (a : Nat) (nx : List Int) (z : Int) : St := ⟨[(1, .ptr (.slot 1) 0), (5, .own (.slot 19) 0 n), (6, .own (.slot 23) 0 n), (7, .own (.slot 27) 0 no), (8, .d (.int .i64 z8)), (9, .d (.int .i64 (a : Int))), (11, .d (.list (iC nx))), (14, .d (.int .i64 z))], rwH id pl rs js od⟩
/-- How a place's flows are left. -/
abbrev roEx (id : List UInt8) (pl : List (List D)) (n : Nat) (z8 : Int) (w : Rw) : Option (Fx × St) := some (.exit 2, ⟨[(1, .ptr (.slot 1) 0), (2, .undef), (3, .undef), (4, .undef), (5, .own (.slot 19) 0 n), (6, .own (.slot 23) 0 n), (7, .own (.slot 27) 0 w.order.length), (8, .d (.int .i64 z8))], rwH id pl (rC w.rows) (iC w.joins) (iC w.order)⟩)
abbrev roRt (id : List UInt8) (pl : List (List D)) (n : Nat) (z8 : Int) (w : Rw) (e : Int) : Option (Fx × St) := some (.ret, ⟨[(1, .ptr (.slot 1) 0), (2, .own (.slot 19) 0 n), (3, .own (.slot 23) 0 n), (4, .d (.int .i64 e)), (5, .own (.slot 19) 0 n), (6, .own (.slot 23) 0 n), (7, .own (.slot 27) 0 w.order.length), (8, .d (.int .i64 z8))], rwH id pl (rC w.rows) (iC w.joins) (iC w.order)⟩)
theorem rowL (id : List UInt8) (ps : List PlaceT) (n : Nat) (hps : ps.length = n) (hn : n ≤ 4096) (z8 : Int) (a : Nat) (nx : List Int) (hnx : nx.length ≤ 100000) (ha : a < n) (p : PlaceT) (hp : ps[a]? = some p) (ho : outsOk p.out n) (hol : p.out.length ≤ maxLen) (j : Nat) (hj : 100100 < j) {lp : LP} (hlp : lp = lpOf Try.prog cfg (icall Try.prog cfg j) Try.f23.ntmps 23 j (([] : Hp).map (·.1))) :
    ∀ (m i : Nat) (z : Int) (w : Rw) (no : Nat) (rs js od : List (List D)) (lf : Nat) (st : St), p.out.length - i = m → i ≤ p.out.length → z = (i : Int) → w.Len n → w.mu ≤ n → (∀ r ∈ w.rows, r.2.length ≤ 100000) → no = w.order.length → rs = rC w.rows → js = iC w.joins → od = iC w.order → m < lf →
      prune [] [1, 5, 6, 7, 8, 9, 11, 14] st = some (roSt id (ps.map PlaceT.cells) n rs js no od z8 a nx z) →
      loopK Try.prog cfg (icall Try.prog cfg j) lp Try.f23.ntmps 23 [] (bodyAt Try.f23 19) lf st (exitP [] (some [1, 2, 3, 4, 5, 6, 7, 8])) =
        iteK ((rowO (p.out.drop i) nx w).2 == 0) (roEx id (ps.map PlaceT.cells) n z8 (rowO (p.out.drop i) nx w).1) (roRt id (ps.map PlaceT.cells) n z8 (rowO (p.out.drop i) nx w).1 (rowO (p.out.drop i) nx w).2) := by
  have hpg := place_get hp
  intro m
  induction m with
  | zero =>
    intro i z w no rs js od lf st hi hle hz hl hmu hrl hno hrs hjs hod hlf hpr
    obtain ⟨lf, rfl⟩ : ∃ n, lf = n + 1 := ⟨lf - 1, by omega⟩
    rw [List.drop_eq_nil_of_le (by omega), rowO_nil]
    subst hno; subst hrs; subst hjs; subst hod
    obtain ⟨kd, nm, nv, ar, ou⟩ := p
    dsimp only at *
    have hend : ¬ z < ((ou.map FlowT.cells).length : Int) := by rw [List.length_map]; omega
    generalize hpc : ps.map PlaceT.cells = pl at *
    refine loop_step hpr ?_
    conv => lhs; whnf
    refine nextK_of (aop_ix rfl rfl rfl rfl (ixL_at' (n := a) rfl hpg rfl)) ?_
    conv => lhs; whnf
    refine iteK_dec_f hend ?_
    conv => lhs; whnf
    refine Eq.trans (b := some (Fx.exit (2 : Nat), St.mk [((1 : Nat), AV.ptr (Nm.slot (1 : Nat)) (0 : Nat)), ((2 : Nat), AV.undef), ((3 : Nat), AV.undef), ((4 : Nat), AV.undef), ((5 : Nat), AV.own (Nm.slot (19 : Nat)) (0 : Nat) n), ((6 : Nat), AV.own (Nm.slot (23 : Nat)) (0 : Nat) n), ((7 : Nat), AV.own (Nm.slot (27 : Nat)) (0 : Nat) (List.length w.order)), ((8 : Nat), AV.d (D.int IntKind.i64 z8))] [(Nm.slot (1 : Nat), AObj.cells [AV.d (D.str id), AV.d (D.list pl)]), (Nm.slot (19 : Nat), AObj.arr (61 : Nat) (2 : Nat) (0 : Nat) (rC w.rows)), (Nm.slot (23 : Nat), AObj.arr (3 : Nat) (1 : Nat) (0 : Nat) (iC w.joins)), (Nm.slot (27 : Nat), AObj.arr (3 : Nat) (1 : Nat) (0 : Nat) (iC w.order))])) (by kernel_rfl) ?_
    rfl
  | succ m ihm =>
    intro i z w no rs js od lf st hi hle hz hl hmu hrl hno hrs hjs hod hlf hpr
    obtain ⟨lf, rfl⟩ : ∃ n, lf = n + 1 := ⟨lf - 1, by omega⟩
    obtain ⟨kd, nm, nv, ar, ou⟩ := p
    dsimp only at *
    have hend : z < ((ou.map FlowT.cells).length : Int) := by rw [List.length_map]; omega
    have hx : ou[i]? = some ou[i] := List.getElem?_eq_getElem (by omega)
    have hd : ou.drop i = ou[i] :: ou.drop (i + 1) := List.drop_eq_getElem_cons (by omega)
    rw [hd]
    generalize ou[i] = o at hx hd ⊢
    have hto := ho o (List.mem_of_getElem? hx)
    obtain ⟨t, hot⟩ : ∃ t : Nat, o.to = (t : Int) := ⟨o.to.toNat, by omega⟩
    have ht : t < n := by omega
    have hf := flow_get hx
    rw [hot] at hf
    generalize o.iff = oi at hf
    have hrt := getR_some (l := w.rows) (i := t) (by rw [hl.1]; exact ht)
    have hrm := hrl _ (List.mem_of_getElem? hrt)
    generalize hbf : getR w.rows t = bf at hrt hrm
    obtain ⟨b, f⟩ := bf
    dsimp only at hrm
    have hmx : 100000 ≤ maxLen := by decide
    have hcs := same31 f nx (by omega) j (by omega)
    have hrb := rC_get hrt
    rw [← hrs] at hrb
    have hol : no ≤ 10000 := by rw [hno]; have := hmu; unfold Rw.mu at this; omega
    have hnl : ((iC nx).length : Int) = (nx.length : Int) := by rw [iC_len]
    cases b with
    | true =>
      cases hs : sameS f nx with
      | true =>
        rw [rowO_met hot _ nx hrt hs]
        rw [hs] at hcs
        have hih := fun lf st => ihm (i + 1) (IntKind.i64.wrap (z + 1)) w no rs js od lf st (by omega) (by omega) (wrap_up hz (by omega)) hl hmu hrl hno hrs hjs hod
        generalize rowO (ou.drop (i + 1)) nx w = q at *
        generalize hpc : ps.map PlaceT.cells = pl at *
        refine loop_step hpr ?_
        conv => lhs; whnf
        refine nextK_of (aop_ix rfl rfl rfl rfl (ixL_at' (n := a) rfl hpg rfl)) ?_
        conv => lhs; whnf
        refine iteK_dec_t hend ?_
        conv => lhs; whnf
        refine nextK_of (aop_ix rfl rfl rfl rfl (ixL_at' (n := a) rfl hpg rfl)) ?_
        conv => lhs; whnf
        refine nextK_of (aop_ix rfl rfl rfl rfl (ixL_at' hz hf rfl)) ?_
        conv => lhs; whnf
        refine nextK_of (aop_ixO (i := t) rfl rfl rfl rfl rfl rfl (by omega)) ?_
        conv => lhs; whnf
        refine nextK_of (aop_ldE1 rfl rfl hrb rfl rfl rfl) ?_
        conv => lhs; whnf
        refine nextK_of (aop_ixO (i := t) rfl rfl rfl rfl rfl rfl (by omega)) ?_
        conv => lhs; whnf
        refine nextK_of (aop_ldE1 rfl rfl hrb rfl rfl rfl) ?_
        conv => lhs; whnf
        refine nextK_of hcs ?_
        conv => lhs; whnf
        refine Eq.trans (hih lf _ (by omega) rfl) ?_
        rfl
      | false =>
        rw [rowO_dif hot _ nx hrt hs]
        rw [hs] at hcs
        subst hno; subst hrs; subst hjs; subst hod
        generalize hpc : ps.map PlaceT.cells = pl at *
        refine loop_step hpr ?_
        conv => lhs; whnf
        refine nextK_of (aop_ix rfl rfl rfl rfl (ixL_at' (n := a) rfl hpg rfl)) ?_
        conv => lhs; whnf
        refine iteK_dec_t hend ?_
        conv => lhs; whnf
        refine nextK_of (aop_ix rfl rfl rfl rfl (ixL_at' (n := a) rfl hpg rfl)) ?_
        conv => lhs; whnf
        refine nextK_of (aop_ix rfl rfl rfl rfl (ixL_at' hz hf rfl)) ?_
        conv => lhs; whnf
        refine nextK_of (aop_ixO (i := t) rfl rfl rfl rfl rfl rfl (by omega)) ?_
        conv => lhs; whnf
        refine nextK_of (aop_ldE1 rfl rfl hrb rfl rfl rfl) ?_
        conv => lhs; whnf
        refine nextK_of (aop_ixO (i := t) rfl rfl rfl rfl rfl rfl (by omega)) ?_
        conv => lhs; whnf
        refine nextK_of (aop_ldE1 rfl rfl hrb rfl rfl rfl) ?_
        conv => lhs; whnf
        refine nextK_of hcs ?_
        conv => lhs; whnf
        refine Eq.trans (b := some (Fx.ret, St.mk [((1 : Nat), AV.ptr (Nm.slot (1 : Nat)) (0 : Nat)), ((2 : Nat), AV.own (Nm.slot (19 : Nat)) (0 : Nat) n), ((3 : Nat), AV.own (Nm.slot (23 : Nat)) (0 : Nat) n), ((4 : Nat), AV.d (D.int IntKind.i64 (8 : Int))), ((5 : Nat), AV.own (Nm.slot (19 : Nat)) (0 : Nat) n), ((6 : Nat), AV.own (Nm.slot (23 : Nat)) (0 : Nat) n), ((7 : Nat), AV.own (Nm.slot (27 : Nat)) (0 : Nat) (List.length w.order)), ((8 : Nat), AV.d (D.int IntKind.i64 z8))] [(Nm.slot (1 : Nat), AObj.cells [AV.d (D.str id), AV.d (D.list pl)]), (Nm.slot (19 : Nat), AObj.arr (61 : Nat) (2 : Nat) (0 : Nat) (rC w.rows)), (Nm.slot (23 : Nat), AObj.arr (3 : Nat) (1 : Nat) (0 : Nat) (iC w.joins)), (Nm.slot (27 : Nat), AObj.arr (3 : Nat) (1 : Nat) (0 : Nat) (iC w.order))])) (by kernel_rfl) ?_
        rfl
    | false =>
      by_cases hs : 16 < nx.length
      · have hs' : ((iC nx).length : Int) > 16 := by omega
        rw [rowO_lim hot _ nx hrt hs]
        subst hno; subst hrs; subst hjs; subst hod
        generalize hpc : ps.map PlaceT.cells = pl at *
        refine loop_step hpr ?_
        conv => lhs; whnf
        refine nextK_of (aop_ix rfl rfl rfl rfl (ixL_at' (n := a) rfl hpg rfl)) ?_
        conv => lhs; whnf
        refine iteK_dec_t hend ?_
        conv => lhs; whnf
        refine nextK_of (aop_ix rfl rfl rfl rfl (ixL_at' (n := a) rfl hpg rfl)) ?_
        conv => lhs; whnf
        refine nextK_of (aop_ix rfl rfl rfl rfl (ixL_at' hz hf rfl)) ?_
        conv => lhs; whnf
        refine nextK_of (aop_ixO (i := t) rfl rfl rfl rfl rfl rfl (by omega)) ?_
        conv => lhs; whnf
        refine nextK_of (aop_ldE1 rfl rfl hrb rfl rfl rfl) ?_
        conv => lhs; whnf
        refine iteK_dec_t hs' ?_
        conv => lhs; whnf
        refine Eq.trans (b := some (Fx.ret, St.mk [((1 : Nat), AV.ptr (Nm.slot (1 : Nat)) (0 : Nat)), ((2 : Nat), AV.own (Nm.slot (19 : Nat)) (0 : Nat) n), ((3 : Nat), AV.own (Nm.slot (23 : Nat)) (0 : Nat) n), ((4 : Nat), AV.d (D.int IntKind.i64 (6 : Int))), ((5 : Nat), AV.own (Nm.slot (19 : Nat)) (0 : Nat) n), ((6 : Nat), AV.own (Nm.slot (23 : Nat)) (0 : Nat) n), ((7 : Nat), AV.own (Nm.slot (27 : Nat)) (0 : Nat) (List.length w.order)), ((8 : Nat), AV.d (D.int IntKind.i64 z8))] [(Nm.slot (1 : Nat), AObj.cells [AV.d (D.str id), AV.d (D.list pl)]), (Nm.slot (19 : Nat), AObj.arr (61 : Nat) (2 : Nat) (0 : Nat) (rC w.rows)), (Nm.slot (23 : Nat), AObj.arr (3 : Nat) (1 : Nat) (0 : Nat) (iC w.joins)), (Nm.slot (27 : Nat), AObj.arr (3 : Nat) (1 : Nat) (0 : Nat) (iC w.order))])) (by kernel_rfl) ?_
        rfl
      · have hs' : ¬ ((iC nx).length : Int) > 16 := by omega
        rw [rowO_new hot _ nx hrt hs]
        have hih := fun lf st => ihm (i + 1) (IntKind.i64.wrap (z + 1)) (rowN w t nx) (no + [[D.int IntKind.i64 (t : Int)]].length) (rs.set t [.bool true, .list (iC nx)]) js (od.take no ++ [[D.int IntKind.i64 (t : Int)]]) lf st (by omega) (by omega) (wrap_up hz (by omega)) (rowN_len hl t nx) (by rw [rowN_mu hrt]; exact hmu)
          (fun r hr => by
            rcases List.mem_or_eq_of_mem_set hr with h | h
            · exact hrl r h
            · subst h; exact hnx)
          (by rw [hno]; simp [rowN]) (by rw [hrs, rC_set]; rfl) hjs (by rw [hod, hno, iC_app]; rfl)
        generalize rowO (ou.drop (i + 1)) nx (rowN w t nx) = q at *
        generalize hpc : ps.map PlaceT.cells = pl at *
        refine loop_step hpr ?_
        conv => lhs; whnf
        refine nextK_of (aop_ix rfl rfl rfl rfl (ixL_at' (n := a) rfl hpg rfl)) ?_
        conv => lhs; whnf
        refine iteK_dec_t hend ?_
        conv => lhs; whnf
        refine nextK_of (aop_ix rfl rfl rfl rfl (ixL_at' (n := a) rfl hpg rfl)) ?_
        conv => lhs; whnf
        refine nextK_of (aop_ix rfl rfl rfl rfl (ixL_at' hz hf rfl)) ?_
        conv => lhs; whnf
        refine nextK_of (aop_ixO (i := t) rfl rfl rfl rfl rfl rfl (by omega)) ?_
        conv => lhs; whnf
        refine nextK_of (aop_ldE1 rfl rfl hrb rfl rfl rfl) ?_
        conv => lhs; whnf
        refine iteK_dec_f hs' ?_
        conv => lhs; whnf
        refine nextK_of (aop_ixO (i := t) rfl rfl rfl rfl rfl rfl (by omega)) ?_
        conv => lhs; whnf
        refine nextK_of (aop_stE rfl rfl rfl rfl rfl hrb rfl) ?_
        conv => lhs; whnf
        refine nextK_of (aop_app rfl rfl rfl rfl rfl rfl rfl rfl rfl rfl rfl rfl (lenI1 (by omega))) ?_
        conv => lhs; whnf
        refine Eq.trans (hih lf _ (by omega) rfl) ?_
        rfl
end Go.Rx12
