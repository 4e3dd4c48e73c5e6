/- A part of the proof of the law: what functions of the program come to, walked by Rx, or plain facts on it. -/
import Derived.Test.YtaghcidejnhahaaRRow0
open Go Go.Rx Go.Proofs Go.Rx12 Go.RxTree
set_option maxRecDepth 1000000
set_option maxHeartbeats 4000000
set_option linter.unusedVariables false
set_option linter.unusedSimpArgs false
namespace Go.Rx12
theorem aop_beginF {P : Program} {dst : Nat} {ρ : Operand → AV} {H : Hp} {c : Call} {s x : Operand} {t u e e' : TypeId} {i : TypeInfo} {z : Value} {fs : List Int} (hcal : c.callee = .builtin .append) (hargs : c.args.toList = [s, x]) (hty : c.argTypes.toList = [t, u])
    (ht : P.underlying t = some (.slice e)) (hu : P.underlying u = some (.slice e')) (hi : P.info? e = some i) (hz : i.zero = some z) (hsz : z.cells.size = i.size) (hx : srcOf H (ρ x) = some (iC fs)) (h1 : i.size = 1) (hb : i.bytes = 8)
    (hs : ρ s = .nilsl) (ho : (H.get (.slot dst)).isNone = true) (hne : fs ≠ []) (hl : fs.length ≤ 1000000) :
    aop P dst ρ H (.call c) = some (.own (.slot dst) 0 fs.length, (.slot dst, .arr e i.size 0 (iC fs)) :: H) := by
  have h := aop_begin (dst := dst) hcal hargs hty ht hu hi hz hsz hx (by rw [h1]; exact iC_all fs) hs ho (by rw [iC_len]; intro h; exact hne (List.eq_nil_of_length_eq_zero h)) (by rw [iC_len, hb]; exact lenF hl)
  rw [iC_len] at h
  exact h
theorem iC_full (l : List Int) : (iC l).take l.length = iC l := List.take_of_length_le (by rw [iC_len]; exact Nat.le_refl _)
theorem iC_last (l : List Int) : (iC l).take (l.length - 1) = iC l.dropLast := by rw [List.dropLast_eq_take, iC, iC, List.map_take]
theorem after37 (id : List UInt8) (ps : List PlaceT) (i : Nat) (p : PlaceT) (hp : ps[i]? = some p) (fs : List Int) (hm : fs.length ≤ 100000) (k : Nat) (hk : 0 < k) :
    icall Try.prog cfg k 37 [.agg [.d (.str id), .d (.list (ps.map PlaceT.cells))], .d (.int .i64 (i : Int)), .d (.list (iC fs))] [] = some (.ret (.tuple [.d (.list (iC (afterS p.kind (i : Int) fs).1)), .d (.bool (afterS p.kind (i : Int) fs).2)]), []) := by
  obtain ⟨k, rfl⟩ : ∃ j, k = j + 1 := ⟨k - 1, by omega⟩
  have hpg := place_get hp
  obtain ⟨kd, nm, nv, ar, ou⟩ := p
  dsimp only
  generalize hpc : ps.map PlaceT.cells = pl at *
  by_cases hf : fs = []
  · subst hf
    by_cases g4 : kd = 4
    · subst g4
      rw [icall_body rfl Try.func37]
      obtain ⟨lp, hlp⟩ : ∃ lp, lp = lpOf Try.prog cfg (icall Try.prog cfg k) Try.f37.ntmps 37 k (([] : Hp).map (·.1)) := ⟨_, rfl⟩
      rw [← hlp]
      conv => lhs; whnf
      refine nextK_of (aop_ix rfl rfl rfl rfl (ixL_at' (n := i) rfl hpg rfl)) ?_
      conv => lhs; whnf
      refine Eq.trans (b := some (Res.ret (AV.tuple [AV.d (D.list [[D.int IntKind.i64 ↑i]]), AV.d (D.bool true)]), [])) (by kernel_rfl) ?_
      rfl
    · by_cases g5 : kd = 5
      · subst g5
        rw [icall_body rfl Try.func37]
        obtain ⟨lp, hlp⟩ : ∃ lp, lp = lpOf Try.prog cfg (icall Try.prog cfg k) Try.f37.ntmps 37 k (([] : Hp).map (·.1)) := ⟨_, rfl⟩
        rw [← hlp]
        conv => lhs; whnf
        refine nextK_of (aop_ix rfl rfl rfl rfl (ixL_at' (n := i) rfl hpg rfl)) ?_
        conv => lhs; whnf
        refine Eq.trans (b := some (Res.ret (AV.tuple [AV.d (D.list []), AV.d (D.bool false)]), [])) (by kernel_rfl) ?_
        rfl
      · by_cases g8 : kd = 8
        · subst g8
          rw [icall_body rfl Try.func37]
          obtain ⟨lp, hlp⟩ : ∃ lp, lp = lpOf Try.prog cfg (icall Try.prog cfg k) Try.f37.ntmps 37 k (([] : Hp).map (·.1)) := ⟨_, rfl⟩
          rw [← hlp]
          conv => lhs; whnf
          refine nextK_of (aop_ix rfl rfl rfl rfl (ixL_at' (n := i) rfl hpg rfl)) ?_
          conv => lhs; whnf
          refine Eq.trans (b := some (Res.ret (AV.tuple [AV.d (D.list []), AV.d (D.bool true)]), [])) (by kernel_rfl) ?_
          rfl
        · rw [show afterS kd (i : Int) [] = ([], true) by rw [afterS, if_neg g4, if_neg g5, if_neg g8]]
          rw [icall_body rfl Try.func37]
          obtain ⟨lp, hlp⟩ : ∃ lp, lp = lpOf Try.prog cfg (icall Try.prog cfg k) Try.f37.ntmps 37 k (([] : Hp).map (·.1)) := ⟨_, rfl⟩
          rw [← hlp]
          conv => lhs; whnf
          refine nextK_of (aop_ix rfl rfl rfl rfl (ixL_at' (n := i) rfl hpg rfl)) ?_
          conv => lhs; whnf
          refine iteK_beq_f g4 ?_
          conv => lhs; whnf
          refine iteK_beq_f g5 ?_
          conv => lhs; whnf
          refine iteK_beq_f g8 ?_
          conv => lhs; whnf
          refine Eq.trans (b := some (Res.ret (AV.tuple [AV.d (D.list []), AV.d (D.bool true)]), [])) (by kernel_rfl) ?_
          rfl
  · have hl0 : fs.length ≠ 0 := fun h => hf (List.eq_nil_of_length_eq_zero h)
    have hfu := iC_full fs
    have hla := iC_last fs
    have hn : (((iC fs).take fs.length).length : Int) = (fs.length : Int) := by rw [hfu, iC_len]
    have hn0 : ¬ (((iC fs).take fs.length).length : Int) = 0 := by rw [hn]; omega
    have hnb : ((((iC fs).take fs.length).length : Int) == 0) = false := by rw [hn]; simpa using hf
    have hw1 : IntKind.i64.wrap ((((iC fs).take fs.length).length : Int) - 1) = ((fs.length - 1 : Nat) : Int) := by rw [hn, wrap_i64 (by omega) (by omega)]; omega
    by_cases g4 : kd = 4
    · subst g4
      rw [show afterS 4 (i : Int) fs = (fs ++ [(i : Int)], true) by rw [afterS, if_pos rfl]]
      rw [← iC_app]
      have hap : (List.take fs.length (iC fs) ++ [[D.int IntKind.i64 (i : Int)]]).take (fs.length + [[D.int IntKind.i64 (i : Int)]].length) = List.take fs.length (iC fs) ++ [[D.int IntKind.i64 (i : Int)]] := List.take_of_length_le (by rw [List.length_append, hfu, iC_len]; exact Nat.le_refl _)
      rw [icall_body rfl Try.func37]
      obtain ⟨lp, hlp⟩ : ∃ lp, lp = lpOf Try.prog cfg (icall Try.prog cfg k) Try.f37.ntmps 37 k (([] : Hp).map (·.1)) := ⟨_, rfl⟩
      rw [← hlp]
      conv => lhs; whnf
      refine nextK_of (aop_beginF rfl rfl rfl rfl rfl rfl rfl rfl rfl rfl rfl rfl rfl hf (by omega)) ?_
      conv => lhs; whnf
      refine nextK_of (aop_ix rfl rfl rfl rfl (ixL_at' (n := i) rfl hpg rfl)) ?_
      conv => lhs; whnf
      refine nextK_of (aop_app rfl rfl rfl rfl rfl rfl rfl rfl rfl rfl rfl rfl (lenI1 (by omega))) ?_
      conv => lhs; whnf
      refine Eq.trans (b := some (Res.ret (AV.tuple [AV.d (D.list (List.take (List.length fs + List.length [[D.int IntKind.i64 ↑i]]) (List.append (List.take (List.length fs) (iC fs)) [[D.int IntKind.i64 ↑i]]))), AV.d (D.bool true)]), [])) (by kernel_rfl) ?_
      exact congrArg (fun b => some (Res.ret (AV.tuple [.d (.list b), .d (.bool true)]), ([] : Hp))) hap
    · by_cases g5 : kd = 5
      · subst g5
        rw [show afterS 5 (i : Int) fs = (fs.dropLast, true) by rw [afterS, if_neg (by decide), if_pos rfl, if_neg hl0], ← hla]
        rw [icall_body rfl Try.func37]
        obtain ⟨lp, hlp⟩ : ∃ lp, lp = lpOf Try.prog cfg (icall Try.prog cfg k) Try.f37.ntmps 37 k (([] : Hp).map (·.1)) := ⟨_, rfl⟩
        rw [← hlp]
        conv => lhs; whnf
        refine nextK_of (aop_beginF rfl rfl rfl rfl rfl rfl rfl rfl rfl rfl rfl rfl rfl hf (by omega)) ?_
        conv => lhs; whnf
        refine nextK_of (aop_ix rfl rfl rfl rfl (ixL_at' (n := i) rfl hpg rfl)) ?_
        conv => lhs; whnf
        refine iteK_f hnb ?_
        conv => lhs; whnf
        refine nextK_of (aop_cutO (b := fs.length - 1) rfl rfl rfl rfl rfl hw1 (by omega)) ?_
        conv => lhs; whnf
        refine Eq.trans (b := some (Res.ret (AV.tuple [AV.d (D.list (List.take (List.length fs - (1 : Nat)) (iC fs))), AV.d (D.bool true)]), [])) (by kernel_rfl) ?_
        rfl
      · by_cases g8 : kd = 8
        · subst g8
          rw [show afterS 8 (i : Int) fs = ([], false) by rw [afterS, if_neg (by decide), if_neg (by decide), if_pos rfl, decide_eq_false hl0]]
          rw [icall_body rfl Try.func37]
          obtain ⟨lp, hlp⟩ : ∃ lp, lp = lpOf Try.prog cfg (icall Try.prog cfg k) Try.f37.ntmps 37 k (([] : Hp).map (·.1)) := ⟨_, rfl⟩
          rw [← hlp]
          conv => lhs; whnf
          refine nextK_of (aop_beginF rfl rfl rfl rfl rfl rfl rfl rfl rfl rfl rfl rfl rfl hf (by omega)) ?_
          conv => lhs; whnf
          refine nextK_of (aop_ix rfl rfl rfl rfl (ixL_at' (n := i) rfl hpg rfl)) ?_
          conv => lhs; whnf
          refine Eq.trans (b := some (Res.ret (AV.tuple [AV.d (D.list []), AV.d (D.bool (↑(List.length (List.take (List.length fs) (iC fs))) == (0 : Int)))]), [])) (by kernel_rfl) ?_
          (rw [hnb]; rfl)
        · rw [show afterS kd (i : Int) fs = (fs, true) by rw [afterS, if_neg g4, if_neg g5, if_neg g8]]
          rw [icall_body rfl Try.func37]
          obtain ⟨lp, hlp⟩ : ∃ lp, lp = lpOf Try.prog cfg (icall Try.prog cfg k) Try.f37.ntmps 37 k (([] : Hp).map (·.1)) := ⟨_, rfl⟩
          rw [← hlp]
          conv => lhs; whnf
          refine nextK_of (aop_beginF rfl rfl rfl rfl rfl rfl rfl rfl rfl rfl rfl rfl rfl hf (by omega)) ?_
          conv => lhs; whnf
          refine nextK_of (aop_ix rfl rfl rfl rfl (ixL_at' (n := i) rfl hpg rfl)) ?_
          conv => lhs; whnf
          refine iteK_beq_f g4 ?_
          conv => lhs; whnf
          refine iteK_beq_f g5 ?_
          conv => lhs; whnf
          refine iteK_beq_f g8 ?_
          conv => lhs; whnf
          refine Eq.trans (b := some (Res.ret (AV.tuple [AV.d (D.list (List.take (List.length fs) (iC fs))), AV.d (D.bool true)]), [])) (by kernel_rfl) ?_
          exact congrArg (fun b => some (Res.ret (AV.tuple [.d (.list b), .d (.bool true)]), ([] : Hp))) hfu
end Go.Rx12
