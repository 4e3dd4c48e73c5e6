/- A part of the proof of the law: what functions of the program come to, walked by Rx, or plain facts on it. -/
import Derived.Test.YtaghcidejnhahaaRTDx
import Derived.Test.YtaghcidejnhahaaRDefs
import Derived.Test.YtaghcidejnhahaaRJ0
import Derived.Test.YtaghcidejnhahaaRFlow6
section
open Go Go.Rx Go.Proofs Go.Rx12 Go.RxTree
set_option maxRecDepth 1000000
set_option maxHeartbeats 4000000
set_option linter.unusedVariables false
set_option linter.unusedSimpArgs false
namespace Go.Rx12
theorem iC_i {l : List Int} {i : Nat} (h : i < l.length) : (iC l)[i]? = some [.int .i64 l[i]] := by rw [iC, List.getElem?_map, List.getElem?_eq_getElem h]; rfl
theorem same_drop {a b : List Int} {i : Nat} {x y : Int} (ha : a[i]? = some x) (hb : b[i]? = some y) : sameS (a.drop i) (b.drop i) = if x = y then sameS (a.drop (i + 1)) (b.drop (i + 1)) else false := by
  obtain ⟨h1, h2⟩ := List.getElem?_eq_some_iff.1 ha
  obtain ⟨h3, h4⟩ := List.getElem?_eq_some_iff.1 hb
  rw [List.drop_eq_getElem_cons h1, List.drop_eq_getElem_cons h3, sameS, h2, h4]
theorem same31L (j : Nat) (a b : List Int) (hab : a.length = b.length) (hm : a.length ≤ maxLen) {lp : LP} (hlp : lp = lpOf Try.prog cfg (icall Try.prog cfg j) Try.f31.ntmps 31 j (([] : Hp).map (·.1))) :
    ∀ (m i : Nat) (z : Int)  (lf : Nat) (st : St), (a).length - i = m → i ≤ (a).length → z = (i : Int) → m < lf → prune [] [0, 1, 5] st = some ⟨[(0, .d (.list (iC a))), (1, .d (.list (iC b))), (5, .d (.int .i64 z))], []⟩ →
      loopK Try.prog cfg (icall Try.prog cfg j) lp Try.f31.ntmps 31 [] (bodyAt Try.f31 4) lf st (exitP [] (some [4])) = iteK (sameS (a.drop i) (b.drop i)) (some (.exit 0, ⟨[(4, .undef)], []⟩)) (some (.ret, ⟨[(4, .d (.bool false))], []⟩)) := by
  intro m
  induction m with
  | zero =>
    intro i z  lf st hi hle hz  hlf hp
    obtain ⟨lf, rfl⟩ : ∃ n, lf = n + 1 := ⟨lf - 1, by omega⟩
    refine loop_step hp ?_
    have hend : ¬ z < ((iC a).length : Int) := by rw [iC_len]; omega
    rw [List.drop_eq_nil_of_le (by omega), List.drop_eq_nil_of_le (by omega), sameS]
    conv => lhs; whnf
    refine iteK_dec_f hend ?_
    conv => lhs; whnf
    refine Eq.trans (b := some (Fx.exit (0 : Nat), St.mk [((4 : Nat), AV.undef)] [])) (by kernel_rfl) ?_
    rfl
  | succ m ihm =>
    intro i z  lf st hi hle hz  hlf hp
    obtain ⟨lf, rfl⟩ : ∃ n, lf = n + 1 := ⟨lf - 1, by omega⟩
    refine loop_step hp ?_
    have hend : z < ((iC a).length : Int) := by rw [iC_len]; omega
    have hx : a[i]? = some a[i] := List.getElem?_eq_getElem (by omega)
    have hy : b[i]? = some b[i] := List.getElem?_eq_getElem (by omega)
    rw [same_drop hx hy]
    have gx := iC_i (l := a) (i := i) (by omega)
    have gy := iC_i (l := b) (i := i) (by omega)
    generalize a[i] = x at *
    generalize b[i] = y at *
    conv => lhs; whnf
    refine iteK_dec_t hend ?_
    conv => lhs; whnf
    refine iteO_t (by kernel_rfl) ?_
    conv => lhs; whnf
    refine nextK_of (aop_ix rfl rfl rfl rfl (ixL_at' hz gx rfl)) ?_
    conv => lhs; whnf
    refine nextK_of (aop_ix rfl rfl rfl rfl (ixL_at' hz gy rfl)) ?_
    conv => lhs; whnf
    refine iteO_t (by kernel_rfl) ?_
    conv => lhs; whnf
    refine iteK_bne (fun h1 => ?_) (fun h1 => ?_)
    · rw [bne_t h1]
      conv => lhs; whnf
      refine Eq.trans (b := some (Fx.ret, St.mk [((4 : Nat), AV.d (D.bool false))] [])) (by kernel_rfl) ?_
      (rw [if_neg (by assumption)]; rfl)
    · rw [bne_f h1]
      conv => lhs; whnf
      refine Eq.trans (ihm (i + 1) _ lf _ (by omega) (by omega) (wrap_up hz (by omega)) (by omega) rfl) ?_
      (rw [if_pos (by assumption)])
theorem same31 (a b : List Int) (hm : a.length ≤ maxLen) (k : Nat) (hk : a.length + 1 < k) : icall Try.prog cfg k 31 [.d (.list (iC a)), .d (.list (iC b))] [] = some (.ret (.d (.bool (sameS a b))), []) := by
  obtain ⟨k, rfl⟩ : ∃ j, k = j + 1 := ⟨k - 1, by omega⟩
  by_cases hab : a.length = b.length
  · have hl : ((iC a).length : Int) = ((iC b).length : Int) := by rw [iC_len, iC_len]; omega
    have h0 : sameS (a.drop 0) (b.drop 0) = sameS a b := rfl
    rw [← h0]
    rw [icall_body rfl Try.func31]
    obtain ⟨lp, hlp⟩ : ∃ lp, lp = lpOf Try.prog cfg (icall Try.prog cfg k) Try.f31.ntmps 31 k (([] : Hp).map (·.1)) := ⟨_, rfl⟩
    rw [← hlp]
    conv => lhs; whnf
    refine iteK_bne_f hl ?_
    conv => lhs; whnf
    refine nextK_ite (loop_at hlp (same31L k a b hab hm hlp a.length 0 0 k _ rfl (Nat.zero_le _) rfl (by omega) rfl)) ?_
    conv => lhs; whnf
    refine iteK_of (fun h1 => ?_) (fun h1 => ?_)
    · rw [h1]
      conv => lhs; whnf
      refine Eq.trans (b := some (Res.ret (AV.d (D.bool true)), [])) (by kernel_rfl) ?_
      rfl
    · rw [h1]
      conv => lhs; whnf
      refine Eq.trans (b := some (Res.ret (AV.d (D.bool false)), [])) (by kernel_rfl) ?_
      rfl
  · have hl : ¬ ((iC a).length : Int) = ((iC b).length : Int) := by rw [iC_len, iC_len]; omega
    rw [sameS_eq, show decide (a = b) = false by rw [decide_eq_false_iff_not]; intro h; subst h; exact hab rfl]
    rw [icall_body rfl Try.func31]
    obtain ⟨lp, hlp⟩ : ∃ lp, lp = lpOf Try.prog cfg (icall Try.prog cfg k) Try.f31.ntmps 31 k (([] : Hp).map (·.1)) := ⟨_, rfl⟩
    rw [← hlp]
    conv => lhs; whnf
    refine iteK_bne_t hl ?_
    conv => lhs; whnf
    refine Eq.trans (b := some (Res.ret (AV.d (D.bool false)), [])) (by kernel_rfl) ?_
    rfl
theorem lenI1 {n : Nat} (h : n ≤ 1000000) : (n + 1) * (8 + 1) ≤ lim := by unfold lim; omega
theorem lenF {n : Nat} (h : n ≤ 1000000) : n * (8 + 1) ≤ lim := by unfold lim; omega
theorem iC_all (l : List Int) : (iC l).all (fun y => y.length == 1) = true := by
  rw [iC, List.all_map, List.all_eq_true]; intro x _; rfl
end Go.Rx12
end
section
open Go Go.Rx Go.Proofs Go.Rx12 Go.RxTree
set_option maxRecDepth 1000000
set_option maxHeartbeats 4000000
set_option linter.unusedVariables false
set_option linter.unusedSimpArgs false
namespace Go.Rx12
theorem aop_beginF {P : Program} {dst : Nat} {ρ : Operand → AV} {H : Hp} {c : Call} {s x : Operand} {t u e e' : TypeId} {i : TypeInfo} {z : Value} {fs : List Int} (hcal : c.callee = .builtin .append) (hargs : c.args.toList = [s, x]) (hty : c.argTypes.toList = [t, u])
    (ht : P.underlying t = some (.slice e)) (hu : P.underlying u = some (.slice e')) (hi : P.info? e = some i) (hz : i.zero = some z) (hsz : z.cells.size = i.size) (hx : srcOf H (ρ x) = some (iC fs)) (h1 : i.size = 1) (hb : i.bytes = 8)
    (hs : ρ s = .nilsl) (ho : (H.get (.slot dst)).isNone = true) (hne : fs ≠ []) (hl : fs.length ≤ 1000000) :
    aop P dst ρ H (.call c) = some (.own (.slot dst) 0 fs.length, (.slot dst, .arr e i.size 0 (iC fs)) :: H) := by
  have h := aop_begin (dst := dst) hcal hargs hty ht hu hi hz hsz hx (by rw [h1]; exact iC_all fs) hs ho (by rw [iC_len]; intro h; exact hne (List.eq_nil_of_length_eq_zero h)) (by rw [iC_len, hb]; exact lenF hl)
  rw [iC_len] at h
  exact h
theorem iC_full (l : List Int) : (iC l).take l.length = iC l := List.take_of_length_le (by rw [iC_len]; exact Nat.le_refl _)
theorem iC_last (l : List Int) : (iC l).take (l.length - 1) = iC l.dropLast := by rw [List.dropLast_eq_take, iC, iC, List.map_take]
theorem after37 (id : List UInt8) (ps : List PlaceT) (i : Nat) (p : PlaceT) (hp : ps[i]? = some p) (fs : List Int) (hm : fs.length ≤ 100000) (k : Nat) (hk : 0 < k) :
    icall Try.prog cfg k 37 [.agg [.d (.str id), .d (.list (ps.map PlaceT.cells))], .d (.int .i64 (i : Int)), .d (.list (iC fs))] [] = some (.ret (.tuple [.d (.list (iC (afterS p.kind (i : Int) fs).1)), .d (.bool (afterS p.kind (i : Int) fs).2)]), []) := by
  obtain ⟨k, rfl⟩ : ∃ j, k = j + 1 := ⟨k - 1, by omega⟩
  have hpg := place_get hp
  obtain ⟨kd, nm, nv, ar, ou⟩ := p
  dsimp only
  generalize hpc : ps.map PlaceT.cells = pl at *
  by_cases hf : fs = []
  · subst hf
    by_cases g4 : kd = 4
    · subst g4
      rw [icall_body rfl Try.func37]
      obtain ⟨lp, hlp⟩ : ∃ lp, lp = lpOf Try.prog cfg (icall Try.prog cfg k) Try.f37.ntmps 37 k (([] : Hp).map (·.1)) := ⟨_, rfl⟩
      rw [← hlp]
      conv => lhs; whnf
      refine nextK_of (aop_ix rfl rfl rfl rfl (ixL_at' (n := i) rfl hpg rfl)) ?_
      conv => lhs; whnf
      refine Eq.trans (b := some (Res.ret (AV.tuple [AV.d (D.list [[D.int IntKind.i64 ↑i]]), AV.d (D.bool true)]), [])) (by kernel_rfl) ?_
      rfl
    · by_cases g5 : kd = 5
      · subst g5
        rw [icall_body rfl Try.func37]
        obtain ⟨lp, hlp⟩ : ∃ lp, lp = lpOf Try.prog cfg (icall Try.prog cfg k) Try.f37.ntmps 37 k (([] : Hp).map (·.1)) := ⟨_, rfl⟩
        rw [← hlp]
        conv => lhs; whnf
        refine nextK_of (aop_ix rfl rfl rfl rfl (ixL_at' (n := i) rfl hpg rfl)) ?_
        conv => lhs; whnf
        refine Eq.trans (b := some (Res.ret (AV.tuple [AV.d (D.list []), AV.d (D.bool false)]), [])) (by kernel_rfl) ?_
        rfl
      · by_cases g8 : kd = 8
        · subst g8
          rw [icall_body rfl Try.func37]
          obtain ⟨lp, hlp⟩ : ∃ lp, lp = lpOf Try.prog cfg (icall Try.prog cfg k) Try.f37.ntmps 37 k (([] : Hp).map (·.1)) := ⟨_, rfl⟩
          rw [← hlp]
          conv => lhs; whnf
          refine nextK_of (aop_ix rfl rfl rfl rfl (ixL_at' (n := i) rfl hpg rfl)) ?_
          conv => lhs; whnf
          refine Eq.trans (b := some (Res.ret (AV.tuple [AV.d (D.list []), AV.d (D.bool true)]), [])) (by kernel_rfl) ?_
          rfl
        · rw [show afterS kd (i : Int) [] = ([], true) by rw [afterS, if_neg g4, if_neg g5, if_neg g8]]
          rw [icall_body rfl Try.func37]
          obtain ⟨lp, hlp⟩ : ∃ lp, lp = lpOf Try.prog cfg (icall Try.prog cfg k) Try.f37.ntmps 37 k (([] : Hp).map (·.1)) := ⟨_, rfl⟩
          rw [← hlp]
          conv => lhs; whnf
          refine nextK_of (aop_ix rfl rfl rfl rfl (ixL_at' (n := i) rfl hpg rfl)) ?_
          conv => lhs; whnf
          refine iteK_beq_f g4 ?_
          conv => lhs; whnf
          refine iteK_beq_f g5 ?_
          conv => lhs; whnf
          refine iteK_beq_f g8 ?_
          conv => lhs; whnf
          refine Eq.trans (b := some (Res.ret (AV.tuple [AV.d (D.list []), AV.d (D.bool true)]), [])) (by kernel_rfl) ?_
          rfl
  · have hl0 : fs.length ≠ 0 := fun h => hf (List.eq_nil_of_length_eq_zero h)
    have hfu := iC_full fs
    have hla := iC_last fs
    have hn : (((iC fs).take fs.length).length : Int) = (fs.length : Int) := by rw [hfu, iC_len]
    have hn0 : ¬ (((iC fs).take fs.length).length : Int) = 0 := by rw [hn]; omega
    have hnb : ((((iC fs).take fs.length).length : Int) == 0) = false := by rw [hn]; simpa using hf
    have hw1 : IntKind.i64.wrap ((((iC fs).take fs.length).length : Int) - 1) = ((fs.length - 1 : Nat) : Int) := by rw [hn, wrap_i64 (by omega) (by omega)]; omega
    by_cases g4 : kd = 4
    · subst g4
      rw [show afterS 4 (i : Int) fs = (fs ++ [(i : Int)], true) by rw [afterS, if_pos rfl]]
      rw [← iC_app]
      have hap : (List.take fs.length (iC fs) ++ [[D.int IntKind.i64 (i : Int)]]).take (fs.length + [[D.int IntKind.i64 (i : Int)]].length) = List.take fs.length (iC fs) ++ [[D.int IntKind.i64 (i : Int)]] := List.take_of_length_le (by rw [List.length_append, hfu, iC_len]; exact Nat.le_refl _)
      rw [icall_body rfl Try.func37]
      obtain ⟨lp, hlp⟩ : ∃ lp, lp = lpOf Try.prog cfg (icall Try.prog cfg k) Try.f37.ntmps 37 k (([] : Hp).map (·.1)) := ⟨_, rfl⟩
      rw [← hlp]
      conv => lhs; whnf
      refine nextK_of (aop_beginF rfl rfl rfl rfl rfl rfl rfl rfl rfl rfl rfl rfl rfl hf (by omega)) ?_
      conv => lhs; whnf
      refine nextK_of (aop_ix rfl rfl rfl rfl (ixL_at' (n := i) rfl hpg rfl)) ?_
      conv => lhs; whnf
      refine nextK_of (aop_app rfl rfl rfl rfl rfl rfl rfl rfl rfl rfl rfl rfl (lenI1 (by omega))) ?_
      conv => lhs; whnf
      refine Eq.trans (b := some (Res.ret (AV.tuple [AV.d (D.list (List.take (List.length fs + List.length [[D.int IntKind.i64 ↑i]]) (List.append (List.take (List.length fs) (iC fs)) [[D.int IntKind.i64 ↑i]]))), AV.d (D.bool true)]), [])) (by kernel_rfl) ?_
      exact congrArg (fun b => some (Res.ret (AV.tuple [.d (.list b), .d (.bool true)]), ([] : Hp))) hap
    · by_cases g5 : kd = 5
      · subst g5
        rw [show afterS 5 (i : Int) fs = (fs.dropLast, true) by rw [afterS, if_neg (by decide), if_pos rfl, if_neg hl0], ← hla]
        rw [icall_body rfl Try.func37]
        obtain ⟨lp, hlp⟩ : ∃ lp, lp = lpOf Try.prog cfg (icall Try.prog cfg k) Try.f37.ntmps 37 k (([] : Hp).map (·.1)) := ⟨_, rfl⟩
        rw [← hlp]
        conv => lhs; whnf
        refine nextK_of (aop_beginF rfl rfl rfl rfl rfl rfl rfl rfl rfl rfl rfl rfl rfl hf (by omega)) ?_
        conv => lhs; whnf
        refine nextK_of (aop_ix rfl rfl rfl rfl (ixL_at' (n := i) rfl hpg rfl)) ?_
        conv => lhs; whnf
        refine iteK_f hnb ?_
        conv => lhs; whnf
        refine nextK_of (aop_cutO (b := fs.length - 1) rfl rfl rfl rfl rfl hw1 (by omega)) ?_
        conv => lhs; whnf
        refine Eq.trans (b := some (Res.ret (AV.tuple [AV.d (D.list (List.take (List.length fs - (1 : Nat)) (iC fs))), AV.d (D.bool true)]), [])) (by kernel_rfl) ?_
        rfl
      · by_cases g8 : kd = 8
        · subst g8
          rw [show afterS 8 (i : Int) fs = ([], false) by rw [afterS, if_neg (by decide), if_neg (by decide), if_pos rfl, decide_eq_false hl0]]
          rw [icall_body rfl Try.func37]
          obtain ⟨lp, hlp⟩ : ∃ lp, lp = lpOf Try.prog cfg (icall Try.prog cfg k) Try.f37.ntmps 37 k (([] : Hp).map (·.1)) := ⟨_, rfl⟩
          rw [← hlp]
          conv => lhs; whnf
          refine nextK_of (aop_beginF rfl rfl rfl rfl rfl rfl rfl rfl rfl rfl rfl rfl rfl hf (by omega)) ?_
          conv => lhs; whnf
          refine nextK_of (aop_ix rfl rfl rfl rfl (ixL_at' (n := i) rfl hpg rfl)) ?_
          conv => lhs; whnf
          refine Eq.trans (b := some (Res.ret (AV.tuple [AV.d (D.list []), AV.d (D.bool (↑(List.length (List.take (List.length fs) (iC fs))) == (0 : Int)))]), [])) (by kernel_rfl) ?_
          (rw [hnb]; rfl)
        · rw [show afterS kd (i : Int) fs = (fs, true) by rw [afterS, if_neg g4, if_neg g5, if_neg g8]]
          rw [icall_body rfl Try.func37]
          obtain ⟨lp, hlp⟩ : ∃ lp, lp = lpOf Try.prog cfg (icall Try.prog cfg k) Try.f37.ntmps 37 k (([] : Hp).map (·.1)) := ⟨_, rfl⟩
          rw [← hlp]
          conv => lhs; whnf
          refine nextK_of (aop_beginF rfl rfl rfl rfl rfl rfl rfl rfl rfl rfl rfl rfl rfl hf (by omega)) ?_
          conv => lhs; whnf
          refine nextK_of (aop_ix rfl rfl rfl rfl (ixL_at' (n := i) rfl hpg rfl)) ?_
          conv => lhs; whnf
          refine iteK_beq_f g4 ?_
          conv => lhs; whnf
          refine iteK_beq_f g5 ?_
          conv => lhs; whnf
          refine iteK_beq_f g8 ?_
          conv => lhs; whnf
          refine Eq.trans (b := some (Res.ret (AV.tuple [AV.d (D.list (List.take (List.length fs) (iC fs))), AV.d (D.bool true)]), [])) (by kernel_rfl) ?_
          exact congrArg (fun b => some (Res.ret (AV.tuple [.d (.list b), .d (.bool true)]), ([] : Hp))) hfu
end Go.Rx12
end
section
open Go Go.Rx Go.Proofs Go.Rx12 Go.RxTree
set_option maxRecDepth 1000000
set_option maxHeartbeats 4000000
set_option linter.unusedVariables false
set_option linter.unusedSimpArgs false
namespace Go.Rx12
theorem lenM33 {n : Nat} (h : n ≤ 1000000) : n * (32 + 1) ≤ lim := by unfold lim; omega
abbrev rwH (id : List UInt8) (pl : List (List D)) (rs : List (List D)) (js od : List (List D)) : Hp :=
  [(.slot 1, .cells [.d (.str id), .d (.list pl)]), (.slot 19, .arr 61 2 0 rs), (.slot 23, .arr 3 1 0 js), (.slot 27, .arr 3 1 0 od)]
abbrev rwSt (id : List UInt8) (pl : List (List D)) (n : Nat) (rs : List (List D)) (js : List (List D)) (no : Nat) (od : List (List D)) (z8 : Int) : St := ⟨[(1, .ptr (.slot 1) 0), (5, .own (.slot 19) 0 n), (6, .own (.slot 23) 0 n), (7, .own (.slot 27) 0 no), (8, .d (.int .i64 z8))], rwH id pl rs js od⟩
abbrev roSt (id : List UInt8) (pl : List (List D)) (n : Nat) (rs : List (List D)) (js : List (List D)) (no : Nat) (od : List (List D)) (z8 : Int) (a : Nat) (nx : List Int) (z : Int) : St := ⟨[(1, .ptr (.slot 1) 0), (5, .own (.slot 19) 0 n), (6, .own (.slot 23) 0 n), (7, .own (.slot 27) 0 no), (8, .d (.int .i64 z8)), (9, .d (.int .i64 (a : Int))), (11, .d (.list (iC nx))), (14, .d (.int .i64 z))], rwH id pl rs js od⟩
/-- How a place's flows are left. -/
abbrev roEx (id : List UInt8) (pl : List (List D)) (n : Nat) (z8 : Int) (w : Rw) : Option (Fx × St) := some (.exit 2, ⟨[(1, .ptr (.slot 1) 0), (2, .undef), (3, .undef), (4, .undef), (5, .own (.slot 19) 0 n), (6, .own (.slot 23) 0 n), (7, .own (.slot 27) 0 w.order.length), (8, .d (.int .i64 z8))], rwH id pl (rC w.rows) (iC w.joins) (iC w.order)⟩)
abbrev roRt (id : List UInt8) (pl : List (List D)) (n : Nat) (z8 : Int) (w : Rw) (e : Int) : Option (Fx × St) := some (.ret, ⟨[(1, .ptr (.slot 1) 0), (2, .own (.slot 19) 0 n), (3, .own (.slot 23) 0 n), (4, .d (.int .i64 e)), (5, .own (.slot 19) 0 n), (6, .own (.slot 23) 0 n), (7, .own (.slot 27) 0 w.order.length), (8, .d (.int .i64 z8))], rwH id pl (rC w.rows) (iC w.joins) (iC w.order)⟩)
theorem rowL (id : List UInt8) (ps : List PlaceT) (n : Nat) (hps : ps.length = n) (hn : n ≤ 4096) (z8 : Int) (a : Nat) (nx : List Int) (hnx : nx.length ≤ 100000) (ha : a < n) (p : PlaceT) (hp : ps[a]? = some p) (ho : outsOk p.out n) (hol : p.out.length ≤ maxLen) (j : Nat) (hj : 100100 < j) {lp : LP} (hlp : lp = lpOf Try.prog cfg (icall Try.prog cfg j) Try.f23.ntmps 23 j (([] : Hp).map (·.1))) :
    ∀ (m i : Nat) (z : Int) (w : Rw) (no : Nat) (rs js od : List (List D)) (lf : Nat) (st : St), p.out.length - i = m → i ≤ p.out.length → z = (i : Int) → w.Len n → w.mu ≤ n → (∀ r ∈ w.rows, r.2.length ≤ 100000) → no = w.order.length → rs = rC w.rows → js = iC w.joins → od = iC w.order → m < lf →
      prune [] [1, 5, 6, 7, 8, 9, 11, 14] st = some (roSt id (ps.map PlaceT.cells) n rs js no od z8 a nx z) →
      loopK Try.prog cfg (icall Try.prog cfg j) lp Try.f23.ntmps 23 [] (bodyAt Try.f23 19) lf st (exitP [] (some [1, 2, 3, 4, 5, 6, 7, 8])) =
        iteK ((rowO (p.out.drop i) nx w).2 == 0) (roEx id (ps.map PlaceT.cells) n z8 (rowO (p.out.drop i) nx w).1) (roRt id (ps.map PlaceT.cells) n z8 (rowO (p.out.drop i) nx w).1 (rowO (p.out.drop i) nx w).2) := by
  have hpg := place_get hp
  intro m
  induction m with
  | zero =>
    intro i z w no rs js od lf st hi hle hz hl hmu hrl hno hrs hjs hod hlf hpr
    obtain ⟨lf, rfl⟩ : ∃ n, lf = n + 1 := ⟨lf - 1, by omega⟩
    rw [List.drop_eq_nil_of_le (by omega), rowO_nil]
    subst hno; subst hrs; subst hjs; subst hod
    obtain ⟨kd, nm, nv, ar, ou⟩ := p
    dsimp only at *
    have hend : ¬ z < ((ou.map FlowT.cells).length : Int) := by rw [List.length_map]; omega
    generalize hpc : ps.map PlaceT.cells = pl at *
    refine loop_step hpr ?_
    conv => lhs; whnf
    refine nextK_of (aop_ix rfl rfl rfl rfl (ixL_at' (n := a) rfl hpg rfl)) ?_
    conv => lhs; whnf
    refine iteK_dec_f hend ?_
    conv => lhs; whnf
    refine Eq.trans (b := some (Fx.exit (2 : Nat), St.mk [((1 : Nat), AV.ptr (Nm.slot (1 : Nat)) (0 : Nat)), ((2 : Nat), AV.undef), ((3 : Nat), AV.undef), ((4 : Nat), AV.undef), ((5 : Nat), AV.own (Nm.slot (19 : Nat)) (0 : Nat) n), ((6 : Nat), AV.own (Nm.slot (23 : Nat)) (0 : Nat) n), ((7 : Nat), AV.own (Nm.slot (27 : Nat)) (0 : Nat) (List.length w.order)), ((8 : Nat), AV.d (D.int IntKind.i64 z8))] [(Nm.slot (1 : Nat), AObj.cells [AV.d (D.str id), AV.d (D.list pl)]), (Nm.slot (19 : Nat), AObj.arr (61 : Nat) (2 : Nat) (0 : Nat) (rC w.rows)), (Nm.slot (23 : Nat), AObj.arr (3 : Nat) (1 : Nat) (0 : Nat) (iC w.joins)), (Nm.slot (27 : Nat), AObj.arr (3 : Nat) (1 : Nat) (0 : Nat) (iC w.order))])) (by kernel_rfl) ?_
    rfl
  | succ m ihm =>
    intro i z w no rs js od lf st hi hle hz hl hmu hrl hno hrs hjs hod hlf hpr
    obtain ⟨lf, rfl⟩ : ∃ n, lf = n + 1 := ⟨lf - 1, by omega⟩
    obtain ⟨kd, nm, nv, ar, ou⟩ := p
    dsimp only at *
    have hend : z < ((ou.map FlowT.cells).length : Int) := by rw [List.length_map]; omega
    have hx : ou[i]? = some ou[i] := List.getElem?_eq_getElem (by omega)
    have hd : ou.drop i = ou[i] :: ou.drop (i + 1) := List.drop_eq_getElem_cons (by omega)
    rw [hd]
    generalize ou[i] = o at hx hd ⊢
    have hto := ho o (List.mem_of_getElem? hx)
    obtain ⟨t, hot⟩ : ∃ t : Nat, o.to = (t : Int) := ⟨o.to.toNat, by omega⟩
    have ht : t < n := by omega
    have hf := flow_get hx
    rw [hot] at hf
    generalize o.iff = oi at hf
    have hrt := getR_some (l := w.rows) (i := t) (by rw [hl.1]; exact ht)
    have hrm := hrl _ (List.mem_of_getElem? hrt)
    generalize hbf : getR w.rows t = bf at hrt hrm
    obtain ⟨b, f⟩ := bf
    dsimp only at hrm
    have hmx : 100000 ≤ maxLen := by decide
    have hcs := same31 f nx (by omega) j (by omega)
    have hrb := rC_get hrt
    rw [← hrs] at hrb
    have hol : no ≤ 10000 := by rw [hno]; have := hmu; unfold Rw.mu at this; omega
    have hnl : ((iC nx).length : Int) = (nx.length : Int) := by rw [iC_len]
    cases b with
    | true =>
      cases hs : sameS f nx with
      | true =>
        rw [rowO_met hot _ nx hrt hs]
        rw [hs] at hcs
        have hih := fun lf st => ihm (i + 1) (IntKind.i64.wrap (z + 1)) w no rs js od lf st (by omega) (by omega) (wrap_up hz (by omega)) hl hmu hrl hno hrs hjs hod
        generalize rowO (ou.drop (i + 1)) nx w = q at *
        generalize hpc : ps.map PlaceT.cells = pl at *
        refine loop_step hpr ?_
        conv => lhs; whnf
        refine nextK_of (aop_ix rfl rfl rfl rfl (ixL_at' (n := a) rfl hpg rfl)) ?_
        conv => lhs; whnf
        refine iteK_dec_t hend ?_
        conv => lhs; whnf
        refine nextK_of (aop_ix rfl rfl rfl rfl (ixL_at' (n := a) rfl hpg rfl)) ?_
        conv => lhs; whnf
        refine nextK_of (aop_ix rfl rfl rfl rfl (ixL_at' hz hf rfl)) ?_
        conv => lhs; whnf
        refine nextK_of (aop_ixO (i := t) rfl rfl rfl rfl rfl rfl (by omega)) ?_
        conv => lhs; whnf
        refine nextK_of (aop_ldE1 rfl rfl hrb rfl rfl rfl) ?_
        conv => lhs; whnf
        refine nextK_of (aop_ixO (i := t) rfl rfl rfl rfl rfl rfl (by omega)) ?_
        conv => lhs; whnf
        refine nextK_of (aop_ldE1 rfl rfl hrb rfl rfl rfl) ?_
        conv => lhs; whnf
        refine nextK_of hcs ?_
        conv => lhs; whnf
        refine Eq.trans (hih lf _ (by omega) rfl) ?_
        rfl
      | false =>
        rw [rowO_dif hot _ nx hrt hs]
        rw [hs] at hcs
        subst hno; subst hrs; subst hjs; subst hod
        generalize hpc : ps.map PlaceT.cells = pl at *
        refine loop_step hpr ?_
        conv => lhs; whnf
        refine nextK_of (aop_ix rfl rfl rfl rfl (ixL_at' (n := a) rfl hpg rfl)) ?_
        conv => lhs; whnf
        refine iteK_dec_t hend ?_
        conv => lhs; whnf
        refine nextK_of (aop_ix rfl rfl rfl rfl (ixL_at' (n := a) rfl hpg rfl)) ?_
        conv => lhs; whnf
        refine nextK_of (aop_ix rfl rfl rfl rfl (ixL_at' hz hf rfl)) ?_
        conv => lhs; whnf
        refine nextK_of (aop_ixO (i := t) rfl rfl rfl rfl rfl rfl (by omega)) ?_
        conv => lhs; whnf
        refine nextK_of (aop_ldE1 rfl rfl hrb rfl rfl rfl) ?_
        conv => lhs; whnf
        refine nextK_of (aop_ixO (i := t) rfl rfl rfl rfl rfl rfl (by omega)) ?_
        conv => lhs; whnf
        refine nextK_of (aop_ldE1 rfl rfl hrb rfl rfl rfl) ?_
        conv => lhs; whnf
        refine nextK_of hcs ?_
        conv => lhs; whnf
        refine Eq.trans (b := some (Fx.ret, St.mk [((1 : Nat), AV.ptr (Nm.slot (1 : Nat)) (0 : Nat)), ((2 : Nat), AV.own (Nm.slot (19 : Nat)) (0 : Nat) n), ((3 : Nat), AV.own (Nm.slot (23 : Nat)) (0 : Nat) n), ((4 : Nat), AV.d (D.int IntKind.i64 (8 : Int))), ((5 : Nat), AV.own (Nm.slot (19 : Nat)) (0 : Nat) n), ((6 : Nat), AV.own (Nm.slot (23 : Nat)) (0 : Nat) n), ((7 : Nat), AV.own (Nm.slot (27 : Nat)) (0 : Nat) (List.length w.order)), ((8 : Nat), AV.d (D.int IntKind.i64 z8))] [(Nm.slot (1 : Nat), AObj.cells [AV.d (D.str id), AV.d (D.list pl)]), (Nm.slot (19 : Nat), AObj.arr (61 : Nat) (2 : Nat) (0 : Nat) (rC w.rows)), (Nm.slot (23 : Nat), AObj.arr (3 : Nat) (1 : Nat) (0 : Nat) (iC w.joins)), (Nm.slot (27 : Nat), AObj.arr (3 : Nat) (1 : Nat) (0 : Nat) (iC w.order))])) (by kernel_rfl) ?_
        rfl
    | false =>
      by_cases hs : 16 < nx.length
      · have hs' : ((iC nx).length : Int) > 16 := by omega
        rw [rowO_lim hot _ nx hrt hs]
        subst hno; subst hrs; subst hjs; subst hod
        generalize hpc : ps.map PlaceT.cells = pl at *
        refine loop_step hpr ?_
        conv => lhs; whnf
        refine nextK_of (aop_ix rfl rfl rfl rfl (ixL_at' (n := a) rfl hpg rfl)) ?_
        conv => lhs; whnf
        refine iteK_dec_t hend ?_
        conv => lhs; whnf
        refine nextK_of (aop_ix rfl rfl rfl rfl (ixL_at' (n := a) rfl hpg rfl)) ?_
        conv => lhs; whnf
        refine nextK_of (aop_ix rfl rfl rfl rfl (ixL_at' hz hf rfl)) ?_
        conv => lhs; whnf
        refine nextK_of (aop_ixO (i := t) rfl rfl rfl rfl rfl rfl (by omega)) ?_
        conv => lhs; whnf
        refine nextK_of (aop_ldE1 rfl rfl hrb rfl rfl rfl) ?_
        conv => lhs; whnf
        refine iteK_dec_t hs' ?_
        conv => lhs; whnf
        refine Eq.trans (b := some (Fx.ret, St.mk [((1 : Nat), AV.ptr (Nm.slot (1 : Nat)) (0 : Nat)), ((2 : Nat), AV.own (Nm.slot (19 : Nat)) (0 : Nat) n), ((3 : Nat), AV.own (Nm.slot (23 : Nat)) (0 : Nat) n), ((4 : Nat), AV.d (D.int IntKind.i64 (6 : Int))), ((5 : Nat), AV.own (Nm.slot (19 : Nat)) (0 : Nat) n), ((6 : Nat), AV.own (Nm.slot (23 : Nat)) (0 : Nat) n), ((7 : Nat), AV.own (Nm.slot (27 : Nat)) (0 : Nat) (List.length w.order)), ((8 : Nat), AV.d (D.int IntKind.i64 z8))] [(Nm.slot (1 : Nat), AObj.cells [AV.d (D.str id), AV.d (D.list pl)]), (Nm.slot (19 : Nat), AObj.arr (61 : Nat) (2 : Nat) (0 : Nat) (rC w.rows)), (Nm.slot (23 : Nat), AObj.arr (3 : Nat) (1 : Nat) (0 : Nat) (iC w.joins)), (Nm.slot (27 : Nat), AObj.arr (3 : Nat) (1 : Nat) (0 : Nat) (iC w.order))])) (by kernel_rfl) ?_
        rfl
      · have hs' : ¬ ((iC nx).length : Int) > 16 := by omega
        rw [rowO_new hot _ nx hrt hs]
        have hih := fun lf st => ihm (i + 1) (IntKind.i64.wrap (z + 1)) (rowN w t nx) (no + [[D.int IntKind.i64 (t : Int)]].length) (rs.set t [.bool true, .list (iC nx)]) js (od.take no ++ [[D.int IntKind.i64 (t : Int)]]) lf st (by omega) (by omega) (wrap_up hz (by omega)) (rowN_len hl t nx) (by rw [rowN_mu hrt]; exact hmu)
          (fun r hr => by
            rcases List.mem_or_eq_of_mem_set hr with h | h
            · exact hrl r h
            · subst h; exact hnx)
          (by rw [hno]; simp [rowN]) (by rw [hrs, rC_set]; rfl) hjs (by rw [hod, hno, iC_app]; rfl)
        generalize rowO (ou.drop (i + 1)) nx (rowN w t nx) = q at *
        generalize hpc : ps.map PlaceT.cells = pl at *
        refine loop_step hpr ?_
        conv => lhs; whnf
        refine nextK_of (aop_ix rfl rfl rfl rfl (ixL_at' (n := a) rfl hpg rfl)) ?_
        conv => lhs; whnf
        refine iteK_dec_t hend ?_
        conv => lhs; whnf
        refine nextK_of (aop_ix rfl rfl rfl rfl (ixL_at' (n := a) rfl hpg rfl)) ?_
        conv => lhs; whnf
        refine nextK_of (aop_ix rfl rfl rfl rfl (ixL_at' hz hf rfl)) ?_
        conv => lhs; whnf
        refine nextK_of (aop_ixO (i := t) rfl rfl rfl rfl rfl rfl (by omega)) ?_
        conv => lhs; whnf
        refine nextK_of (aop_ldE1 rfl rfl hrb rfl rfl rfl) ?_
        conv => lhs; whnf
        refine iteK_dec_f hs' ?_
        conv => lhs; whnf
        refine nextK_of (aop_ixO (i := t) rfl rfl rfl rfl rfl rfl (by omega)) ?_
        conv => lhs; whnf
        refine nextK_of (aop_stE rfl rfl rfl rfl rfl hrb rfl) ?_
        conv => lhs; whnf
        refine nextK_of (aop_app rfl rfl rfl rfl rfl rfl rfl rfl rfl rfl rfl rfl (lenI1 (by omega))) ?_
        conv => lhs; whnf
        refine Eq.trans (hih lf _ (by omega) rfl) ?_
        rfl
end Go.Rx12
end
