/- A part of the proof of the law: what functions of the program come to, walked by Rx, or plain facts on it. -/
import Derived.Test.YtahnmikdpclbfaaRxJc
import Derived.Test.YtahnmikdpclbfaaRPutMo
import Derived.Test.YtahnmikdpclbfaaRJ0
import Derived.Test.YtahnmikdpclbfaaRSameM
import Derived.Test.YtahnmikdpclbfaaRLaw3
import Derived.Test.YtahnmikdpclbfaaRSpecBk
open Go Go.Rx Go.Proofs Go.Rx11 Go.RxTree
set_option maxRecDepth 1000000
set_option maxHeartbeats 4000000
set_option linter.unusedVariables false
set_option linter.unusedSimpArgs false
namespace Go.Rx11
def sq1 : Code → Code
  | .seq a _ => a
  | c => c
def sq2 : Code → Code
  | .seq _ b => b
  | c => c
noncomputable def B7 : Code := Try.f7.body.getD .skip
noncomputable def C7 : Code := sq2 (sq2 (sq2 (sq2 B7)))
noncomputable def xs71 : List Code := [sq1 B7, sq1 (sq2 B7), sq1 (sq2 (sq2 B7)), sq1 (sq2 (sq2 (sq2 B7)))]
noncomputable def xs72 : List Code := [sq1 C7, sq1 (sq2 C7), sq1 (sq2 (sq2 C7)), sq1 (sq2 (sq2 (sq2 C7))), sq1 (sq2 (sq2 (sq2 (sq2 C7))))]
noncomputable def rest7 : Code := sq2 (sq2 (sq2 (sq2 (sq2 C7))))
theorem body7 : Try.f7.body = some (seqs xs71 (seqs xs72 rest7)) := by kernel_rfl
noncomputable def thaw7 (k : Nat) : List AV → Hp → Option (Res × Hp) := thawDef Try.prog cfg (icall Try.prog cfg k) Try.f7 7 k xs71 xs72 rest7 7 2
theorem thaw7_ok (k : Nat) : FnOk Try.prog 7 (thaw7 k) := thaw_ok (icall_ok hext k) Try.func7 body7 (by kernel_rfl) (by kernel_rfl) (by decide)
open Classical in
/-- The law's call, with as much fuel as it needs. -/
noncomputable def thaw7X (args : List AV) (H : Hp) : Option (Res × Hp) := if ∃ k, thaw7 k args H = some (.ret (.d (.bool true)), []) then some (.ret (.d (.bool true)), []) else none
theorem thaw7X_ok : FnOk Try.prog 7 thaw7X := by
  intro args H res H' h
  unfold thaw7X at h
  split at h
  · rename_i hk
    obtain ⟨k, hk⟩ := hk
    injection h with h
    injection h with h1 h2
    subst h1 h2
    exact thaw7_ok k _ _ _ _ hk
  · cases h
noncomputable def cfg7 : Cfg := { cfg with ext := fun f => if f = 7 then some thaw7X else cfg.ext f }
theorem hext7 : ExtOk Try.prog cfg7 := by
  intro f g h
  simp only [cfg7] at h
  split at h
  · rename_i hf
    injection h with h; subst h hf
    exact thaw7X_ok
  · exact hext f g h
theorem icall7 {args : List AV} (h : ∃ k, thaw7 k args [] = some (.ret (.d (.bool true)), [])) : icall Try.prog cfg7 1 7 args [] = some (.ret (.d (.bool true)), []) := by
  show thaw7X args [] = _
  unfold thaw7X
  rw [if_pos h]
/-- A number, the rest of a division. -/
theorem aop_rem {P : Program} {dst : Nat} {ρ : Operand → AV} {H : Hp} {t u : TypeId} {x y : Operand} {k : IntKind} {a b : Int} (hx : ρ x = .d (.int k a)) (hy : ρ y = .d (.int k b)) (hb : b ≠ 0) :
    aop P dst ρ H (.binOp .rem t x y u) = some (.d (.int k (a.tmod b)), H) := by
  simp only [aop, aBin, hx, hy, bInt, if_neg hb, if_true, Option.map_some]
  rfl
/-- The law's call, with what its calls come to. -/
abbrev dv (id : List UInt8) (ps : List PlaceT) : AV := .agg [.d (.str id), .d (.list (ps.map PlaceT.cells))]
abbrev rdC (k : Nat) (es : List (List D)) (q : DefT) (e : Int) : Prop := icall Try.prog cfg k 24 [.d (.list es)] [] = some (.ret (.tuple [.agg [.d (.str q.id), .d (.list (q.places.map PlaceT.cells))], .d (.int .i64 e)]), [])
theorem l7_heavy (id : List UInt8) (ps : List PlaceT) (cut : Int) (ms : List (List D)) (k : Nat) (wk : icall Try.prog cfg k 11 [] [] = some (.ret (.d (.bool true)), [])) (cl : icall Try.prog cfg k 10 [.agg [.d (.str id), .d (.list (ps.map PlaceT.cells))]] [] = some (.ret (.d (.bool false)), [])) :
    thaw7 k [dv id ps, .d (.int .i64 cut), .d (.list ms)] [] = some (.ret (.d (.bool true)), []) := by
  show thawDef _ _ _ _ _ _ _ _ _ _ _ _ _ = _
  obtain ⟨lp, hlp⟩ : ∃ lp, lp = lpOf Try.prog cfg (icall Try.prog cfg k) Try.f7.ntmps 7 k [] := ⟨_, rfl⟩
  rw [thawK_eq hlp]
  conv => lhs; whnf
  refine nextK_of cl ?_
  conv => lhs; whnf
  refine nextK_of wk ?_
  conv => lhs; whnf
  refine Eq.trans (b := some (Res.ret (AV.d (D.bool true)), [])) (by kernel_rfl) ?_
  rfl
theorem l7_much (id : List UInt8) (ps : List PlaceT) (cut : Int) (ms : List (List D)) (hm : (ms.length : Int) > 1000) (k : Nat) (wk : icall Try.prog cfg k 11 [] [] = some (.ret (.d (.bool true)), [])) (cl : icall Try.prog cfg k 10 [.agg [.d (.str id), .d (.list (ps.map PlaceT.cells))]] [] = some (.ret (.d (.bool true)), [])) :
    thaw7 k [dv id ps, .d (.int .i64 cut), .d (.list ms)] [] = some (.ret (.d (.bool true)), []) := by
  show thawDef _ _ _ _ _ _ _ _ _ _ _ _ _ = _
  obtain ⟨lp, hlp⟩ : ∃ lp, lp = lpOf Try.prog cfg (icall Try.prog cfg k) Try.f7.ntmps 7 k [] := ⟨_, rfl⟩
  rw [thawK_eq hlp]
  conv => lhs; whnf
  refine nextK_of cl ?_
  conv => lhs; whnf
  refine iteK_dec_t hm ?_
  conv => lhs; whnf
  refine nextK_of wk ?_
  conv => lhs; whnf
  refine Eq.trans (b := some (Res.ret (AV.d (D.bool true)), [])) (by kernel_rfl) ?_
  rfl
theorem l7_bad (id : List UInt8) (ps : List PlaceT) (cut : Int) (ms : List (List D)) (hm : ¬ (ms.length : Int) > 1000) (e : Int) (he : e ≠ 0) (k : Nat) (wk : icall Try.prog cfg k 11 [] [] = some (.ret (.d (.bool true)), [])) (cl : icall Try.prog cfg k 10 [.agg [.d (.str id), .d (.list (ps.map PlaceT.cells))]] [] = some (.ret (.d (.bool true)), []))
    (cp : icall Try.prog cfg k 22 [.agg [.d (.str id), .d (.list (ps.map PlaceT.cells))]] [] = some (.ret (.tuple [.nilsl, .d (.int .i64 e)]), [])) :
    thaw7 k [dv id ps, .d (.int .i64 cut), .d (.list ms)] [] = some (.ret (.d (.bool true)), []) := by
  show thawDef _ _ _ _ _ _ _ _ _ _ _ _ _ = _
  obtain ⟨lp, hlp⟩ : ∃ lp, lp = lpOf Try.prog cfg (icall Try.prog cfg k) Try.f7.ntmps 7 k [] := ⟨_, rfl⟩
  rw [thawK_eq hlp]
  conv => lhs; whnf
  refine nextK_of cl ?_
  conv => lhs; whnf
  refine iteK_dec_f hm ?_
  conv => lhs; whnf
  refine nextK_of cp ?_
  conv => lhs; whnf
  refine iteK_bne_t he ?_
  conv => lhs; whnf
  refine nextK_of wk ?_
  conv => lhs; whnf
  refine Eq.trans (b := some (Res.ret (AV.d (D.bool true)), [])) (by kernel_rfl) ?_
  rfl
theorem lenB7 {n m : Nat} (h : n ≤ 1000000000000) (h2 : m ≤ 100000) : (n + m) * (1 + 1) ≤ lim := by unfold lim; omega
theorem l7_ok (id : List UInt8) (ps : List PlaceT) (cut : Int) (ms : List (List D)) (hm : ¬ (ms.length : Int) > 1000) (hma : ms.all (fun y => y.length == 1) = true) (k : Nat) (wk : icall Try.prog cfg k 11 [] [] = some (.ret (.d (.bool true)), [])) (cl : icall Try.prog cfg k 10 [.agg [.d (.str id), .d (.list (ps.map PlaceT.cells))]] [] = some (.ret (.d (.bool true)), []))
    (es : List (List D)) (hel : 0 < es.length) (heb : es.length ≤ 1000000000000) (cp : icall Try.prog cfg k 22 [.agg [.d (.str id), .d (.list (ps.map PlaceT.cells))]] [] = some (.ret (.tuple [.own (.res 0) 0 es.length, .d (.int .i64 0)]), [(.res 0, .arr 5 1 0 es)]))
    (c1 : rdC k (es.take es.length) ⟨id, ps⟩ 0)
    (s1 : icall Try.prog cfg k 26 [dv id ps, dv id ps] [] = some (.ret (.d (.bool true)), [])) (s2 : icall Try.prog cfg k 27 [dv id ps, dv id ps] [] = some (.ret (.d (.bool true)), []))
    (es2 : List (List D)) (aop_s2 : ∀ {P : Program} {dst : Nat} {ρ : Operand → AV} {H : Hp} {t e : TypeId} {x : Operand} {hi : Option Operand}, ρ x = .d (.list (es.take es.length)) → P.underlying t = some (.slice e) → sizeT P e = some 1 → intV (hi.map ρ) = some (some (IntKind.i64.wrap ((IntKind.u64.wrap cut).tmod (IntKind.u64.wrap ((es.take es.length).length : Int))))) → aop P dst ρ H (.slice t x none hi none) = some (.d (.list es2), H))
    (q2 : DefT) (e2 : Int) (he2 : e2 ≠ 0) (c2 : rdC k es2 q2 e2)
    (q3 : DefT) (e3 : Int) (c3 : rdC k ((es.take es.length ++ ms).take (es.length + ms.length)) q3 e3) (h3 : (e3 = 0 ∧ ms.length = 0) ∨ (e3 ≠ 0 ∧ ms.length ≠ 0)) :
    thaw7 k [dv id ps, .d (.int .i64 cut), .d (.list ms)] [] = some (.ret (.d (.bool true)), []) := by
  show thawDef _ _ _ _ _ _ _ _ _ _ _ _ _ = _
  obtain ⟨lp, hlp⟩ : ∃ lp, lp = lpOf Try.prog cfg (icall Try.prog cfg k) Try.f7.ntmps 7 k [] := ⟨_, rfl⟩
  rw [thawK_eq hlp]
  have hn : ((es.take es.length).length : Int) ≠ 0 := by rw [List.length_take]; omega
  have hr0 : IntKind.u64.wrap ((es.take es.length).length : Int) ≠ 0 := by rw [Go.Rx.wrap_u64 (by omega) (by rw [List.length_take]; omega)]; exact hn
  have hlim := lenB7 heb (show ms.length ≤ 100000 by omega)
  unfold rdC at c1 c2 c3
  unfold dv at s1 s2
  rcases h3 with ⟨h3, h4⟩ | ⟨h3, h4⟩
  · have h4' : (ms.length : Int) = 0 := by omega
    have heq : (e3 == 0) = ((ms.length : Int) == 0) := by rw [h3, h4']
    conv => lhs; whnf
    refine nextK_of cl ?_
    conv => lhs; whnf
    refine iteK_dec_f hm ?_
    conv => lhs; whnf
    refine nextK_of cp ?_
    conv => lhs; whnf
    refine nextK_of c1 ?_
    conv => lhs; whnf
    refine nextK_of s1 ?_
    conv => lhs; whnf
    refine nextK_of s2 ?_
    conv => lhs; whnf
    refine iteK_beq_f hn ?_
    conv => lhs; whnf
    refine nextK_of (aop_rem rfl rfl hr0) ?_
    conv => lhs; whnf
    refine nextK_of (aop_s2 rfl rfl rfl rfl) ?_
    conv => lhs; whnf
    refine nextK_of c2 ?_
    conv => lhs; whnf
    refine iteK_beq_f he2 ?_
    conv => lhs; whnf
    refine nextK_of (aop_app rfl rfl rfl rfl rfl rfl rfl rfl rfl hma rfl rfl hlim) ?_
    conv => lhs; whnf
    refine nextK_of c3 ?_
    conv => lhs; whnf
    refine iteK_beq_t heq ?_
    conv => lhs; whnf
    refine nextK_of wk ?_
    conv => lhs; whnf
    refine iteK_beq_t heq ?_
    conv => lhs; whnf
    refine Eq.trans (b := some (Res.ret (AV.d (D.bool true)), [])) (by kernel_rfl) ?_
    rfl
  · have h4' : (ms.length : Int) ≠ 0 := by omega
    have heq : (e3 == 0) = ((ms.length : Int) == 0) := by rw [beq_f h3, beq_f h4']
    conv => lhs; whnf
    refine nextK_of cl ?_
    conv => lhs; whnf
    refine iteK_dec_f hm ?_
    conv => lhs; whnf
    refine nextK_of cp ?_
    conv => lhs; whnf
    refine nextK_of c1 ?_
    conv => lhs; whnf
    refine nextK_of s1 ?_
    conv => lhs; whnf
    refine nextK_of s2 ?_
    conv => lhs; whnf
    refine iteK_beq_f hn ?_
    conv => lhs; whnf
    refine nextK_of (aop_rem rfl rfl hr0) ?_
    conv => lhs; whnf
    refine nextK_of (aop_s2 rfl rfl rfl rfl) ?_
    conv => lhs; whnf
    refine nextK_of c2 ?_
    conv => lhs; whnf
    refine iteK_beq_f he2 ?_
    conv => lhs; whnf
    refine nextK_of (aop_app rfl rfl rfl rfl rfl rfl rfl rfl rfl hma rfl rfl hlim) ?_
    conv => lhs; whnf
    refine nextK_of c3 ?_
    conv => lhs; whnf
    refine iteK_beq_t heq ?_
    conv => lhs; whnf
    refine nextK_of wk ?_
    conv => lhs; whnf
    refine iteK_beq_t heq ?_
    conv => lhs; whnf
    refine Eq.trans (b := some (Res.ret (AV.d (D.bool true)), [])) (by kernel_rfl) ?_
    rfl
theorem umod {cut : Int} {n : Nat} (hn : 0 < n) (h : n ≤ 1000000000000) : ∃ q : Nat, q < n ∧ IntKind.i64.wrap ((IntKind.u64.wrap cut).tmod (IntKind.u64.wrap (n : Int))) = (q : Int) := by
  have h0 : 0 ≤ IntKind.u64.wrap cut := by
    simp only [IntKind.wrap, IntKind.bits, IntKind.signed, Bool.false_and, Bool.false_eq_true, if_false, Int.reducePow]
    omega
  rw [Go.Rx.wrap_u64 (n := (n : Int)) (by omega) (by omega), Int.tmod_eq_emod_of_nonneg h0]
  have h1 : 0 ≤ IntKind.u64.wrap cut % (n : Int) := Int.emod_nonneg _ (by omega)
  have h2 : IntKind.u64.wrap cut % (n : Int) < n := Int.emod_lt_of_pos _ (by omega)
  generalize IntKind.u64.wrap cut % (n : Int) = z at *
  exact ⟨z.toNat, by omega, by rw [Go.Rx.wrap_i64 (by omega) (by omega)]; omega⟩
theorem law7 (d : DefT) (ho : d.Ok) (hs : d.Sm) (cut : Int) (hcut : (Lit.int .i64 cut).wf = true) (more : List UInt8) (hm0 : more.length ≤ maxLen) (hm1 : more.length ≤ 140737488351232) : ∃ k, thaw7 k [d.av, .d (.int .i64 cut), .d (.list (bL more))] [] = some (.ret (.d (.bool true)), []) := by
  by_cases hmb : ((bL more).length : Int) > 1000
  · refine ⟨d.wt + 100, ?_⟩
    have wk := works11 (d.wt + 100) (by omega)
    have cl := light10 d ho hs (d.wt + 100) (by omega)
    by_cases hw : weightD d 800 ≤ 800
    · rw [decide_eq_true hw] at cl
      exact l7_much d.id d.places cut (bL more) hmb _ wk cl
    · rw [decide_eq_false hw] at cl
      exact l7_heavy d.id d.places cut (bL more) _ wk cl
  have hml : more.length ≤ 1000 := by rw [bL_len] at hmb; omega
  by_cases hc : checkD d = 0
  · obtain ⟨l1, l2, l3⟩ := def_len (check_good hc) ho
    have hbl : (defB d).length ≤ 400000000000 := by unfold defB; rw [List.length_append, List.length_append]; omega
    have hb0 : 0 < (defB d).length := by
      unfold defB bytesB
      rw [List.length_append, List.length_append]
      have : 0 < (uintB d.id.length).length := by
        by_cases h : d.id.length < 128
        · rw [uintB_0 h]; simp
        · rw [uintB_1 h]; simp
      omega
    obtain ⟨q, hq, hqe⟩ := umod (cut := cut) hb0 (by omega)
    obtain ⟨k, hk⟩ : ∃ k, k = d.wt + (sDef ((defB d).take q)).wt + (sDef (defB d ++ more)).wt + (sDef (defB d)).wt + 10000000000000 := ⟨_, rfl⟩
    refine ⟨k, ?_⟩
    have wk := works11 k (by omega)
    have cl := light10 d ho hs k (by omega)
    by_cases hw : weightD d 800 ≤ 800
    · rw [decide_eq_true hw] at cl
      obtain ⟨es, hes, cp⟩ := put22o d hs ho hc k (by omega)
      have hel : es.length = (defB d).length := by rw [hes, bL_len]
      have htk : es.take es.length = bL (defB d) := by rw [List.take_length, hes]
      have c1 := read24 (defB d) (by unfold LB; omega) k (by omega)
      rw [readD_back ho hc, ← htk] at c1
      have c2 := read24 ((defB d).take q) (by unfold LB; rw [List.length_take]; omega) k (by rw [List.length_take]; omega)
      have c3 := read24 (defB d ++ more) (by unfold LB; rw [List.length_append]; omega) k (by rw [List.length_append]; omega)
      have h3 : (readD (defB d ++ more)).2 = 0 ∧ (bL more).length = 0 ∨ (readD (defB d ++ more)).2 ≠ 0 ∧ (bL more).length ≠ 0 := by
        by_cases hr : more = []
        · subst hr
          refine .inl ⟨?_, rfl⟩
          rw [List.append_nil, readD_back ho hc]
        · refine .inr ⟨?_, by rw [bL_len]; intro h; exact hr (List.eq_nil_of_length_eq_zero h)⟩
          rw [readD_more ho hc hr]; simp
      have ht3 : (es.take es.length ++ bL more).take (es.length + (bL more).length) = bL (defB d ++ more) := by
        rw [htk, ← bL_app, List.take_of_length_le (by rw [hel, bL_len, bL_app, bL_len, List.length_append]; exact Nat.le_refl _)]
      rw [← ht3] at c3
      refine l7_ok d.id d.places cut (bL more) hmb (bL_all more) k wk cl es (by omega) (by omega) cp c1 (same26 d ho k (by omega)) (same27 d ho k (by omega)) (bL ((defB d).take q)) (fun hx ht hsz hh => ?_) _ _ (readD_cut ho hc hq (by omega)) c2 _ _ c3 h3
      rw [List.length_take, Nat.min_self, hel, hqe] at hh
      rw [htk] at hx
      rw [aop_sliceB (a := 0) (b := q) hx ht hsz rfl hh rfl (bnds_to rfl (by omega)), List.drop_zero]
    · rw [decide_eq_false hw] at cl
      exact l7_heavy d.id d.places cut (bL more) _ wk cl
  · refine ⟨d.wt + 200, ?_⟩
    have wk := works11 (d.wt + 200) (by omega)
    have cl := light10 d ho hs (d.wt + 200) (by omega)
    by_cases hw : weightD d 800 ≤ 800
    · rw [decide_eq_true hw] at cl
      exact l7_bad d.id d.places cut (bL more) hmb _ hc _ wk cl (put22e d hs ho _ rfl hc (d.wt + 200) (by omega))
    · rw [decide_eq_false hw] at cl
      exact l7_heavy d.id d.places cut (bL more) _ wk cl
end Go.Rx11
