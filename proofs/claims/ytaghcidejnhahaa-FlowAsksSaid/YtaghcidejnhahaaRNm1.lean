/- A part of the proof of the law: what functions of the program come to, walked by Rx, or plain facts on it. -/
import Derived.Test.YtaghcidejnhahaaRNm0
open Go Go.Rx Go.Proofs Go.Rx12 Go.RxTree
set_option maxRecDepth 1000000
set_option maxHeartbeats 4000000
set_option linter.unusedVariables false
set_option linter.unusedSimpArgs false
namespace Go.Rx12
theorem uniq_nil : uniq [] = [] := by unfold uniq sorted; rw [List.mergeSort_nil]; rfl
theorem srt43 (l : List Tx) (h : l.length ≤ 65536) (k : Nat) (hk : 0 < k) : icall Try.prog cfg k 43 [.own (.arg 0) 0 l.length] [(.arg 0, .arr 9 1 0 (sL l))] = some (.ret (.tuple []), [(.arg 0, .arr 9 1 0 (sL (sorted l)))]) := by
  rw [icall_ext (g := fixX sortX) rfl k hk]; exact fix_sort _ l (by omega)
theorem cmp44 (l : List Tx) (h : l.length ≤ 65536) (n : Nat) (hn : n = l.length) (k : Nat) (hk : 0 < k) : icall Try.prog cfg k 44 [.own (.arg 0) 0 n] [(.arg 0, .arr 9 1 0 (sL l))] = some (.ret (.own (.arg 0) 1 (Go.Lib.compact l).length), [(.arg 0, .arr 9 1 1 (sL (Go.Lib.compact l)))]) := by
  subst hn
  rw [icall_ext (g := fixX compactX) rfl k hk]; exact fix_compact _ l (by omega)
theorem srt0 (k : Nat) (hk : 0 < k) : icall Try.prog cfg k 43 [.nilsl] [] = some (.ret (.tuple []), []) := by
  rw [icall_ext (g := fixX sortX) rfl k hk]; rfl
theorem cmp0 (k : Nat) (hk : 0 < k) : icall Try.prog cfg k 44 [.nilsl] [] = some (.ret .nilsl, []) := by
  rw [icall_ext (g := fixX compactX) rfl k hk]; rfl
theorem sorted_len (l : List Tx) : (sorted l).length = l.length := List.length_mergeSort _
theorem namesOf_yes {kind : Int} {p : PlaceT} (r : List PlaceT) (h : p.kind = kind) : namesOf kind (p :: r) = p.name :: namesOf kind r := by
  rw [namesOf, List.filter_cons, if_pos (decide_eq_true h)]; rfl
theorem namesOf_no {kind : Int} {p : PlaceT} (r : List PlaceT) (h : p.kind ≠ kind) : namesOf kind (p :: r) = namesOf kind r := by
  rw [namesOf, List.filter_cons, if_neg (by simpa using h)]; rfl
abbrev nmF (kind : Int) (oA : AV) (pl : List (List D)) (z : Int) : List (Nat × AV) := [(1, .d (.int .i64 kind)), (5, oA), (9, .d (.list pl)), (10, .d (.int .i64 pl.length)), (11, .d (.int .i64 z))]
def nmY : List Tx → Option (Fx × St)
  | [] => some (.exit 0, ⟨[(5, .nilsl)], []⟩)
  | x :: r => some (.exit 0, ⟨[(5, .own (.slot 23) 0 (x :: r).length)], [arrS (.slot 23) 0 (sL (x :: r))]⟩)
theorem nmOwn (j : Nat) (kind : Int) (ps : List PlaceT) (hps : ps.length ≤ 5000) {lp : LP} (hlp : lp = lpOf Try.prog cfg (icall Try.prog cfg j) Try.f32.ntmps 32 j (([] : Hp).map (·.1))) :
    ∀ (m i : Nat) (z : Int) (acc : List Tx) (no : Nat) (oD : List (List D)) (lf : Nat) (st : St), ps.length - i = m → i ≤ ps.length → z = (i : Int) → acc ≠ [] → acc.length ≤ i → no = acc.length → oD = sL acc → m < lf → prune [] [1, 5, 9, 10, 11] st = some ⟨nmF kind (.own (.slot 23) 0 no) (ps.map PlaceT.cells) z, [arrS (.slot 23) 0 oD]⟩ →
      loopK Try.prog cfg (icall Try.prog cfg j) lp Try.f32.ntmps 32 [] (bodyAt Try.f32 3) lf st (exitP [] (some [5])) = nmY (acc ++ namesOf kind (ps.drop i)) := by
  have hmx : 200000 ≤ maxLen := by decide
  intro m
  induction m with
  | zero =>
    intro i z acc no oD lf st hi hle hz ha h1 h2 h3 hlf hp
    obtain ⟨lf, rfl⟩ : ∃ n, lf = n + 1 := ⟨lf - 1, by omega⟩
    have hend : ¬ z < ((ps.map PlaceT.cells).length : Int) := by rw [List.length_map]; omega
    rw [List.drop_eq_nil_of_le (by omega), show namesOf kind [] = [] from rfl, List.append_nil]
    obtain ⟨x, r, rfl⟩ := List.exists_cons_of_ne_nil ha
    subst h2; subst h3
    generalize hpc : ps.map PlaceT.cells = pl at *
    refine loop_step hp ?_
    conv => lhs; whnf
    refine iteK_dec_f hend ?_
    conv => lhs; whnf
    refine Eq.trans (b := some (Fx.exit (0 : Nat), St.mk [((5 : Nat), AV.own (Nm.slot (23 : Nat)) (0 : Nat) (List.length (x :: r)))] [(Nm.slot (23 : Nat), AObj.arr (9 : Nat) (1 : Nat) (0 : Nat) ([D.str x] :: List.map (fun s => [D.str s]) r))])) (by kernel_rfl) ?_
    rfl
  | succ m ihm =>
    intro i z acc no oD lf st hi hle hz ha h1 h2 h3 hlf hp
    obtain ⟨lf, rfl⟩ : ∃ n, lf = n + 1 := ⟨lf - 1, by omega⟩
    have hend : z < ((ps.map PlaceT.cells).length : Int) := by rw [List.length_map]; omega
    have hx : ps[i]? = some ps[i] := List.getElem?_eq_getElem (by omega)
    rw [List.drop_eq_getElem_cons (by omega)]
    generalize ps[i] = p at hx ⊢
    have hpg := place_get hx
    by_cases hk : p.kind = kind
    · rw [namesOf_yes _ hk]
      have hno : no ≤ 5000 := by omega
      have hih := fun lf st => ihm (i + 1) (IntKind.i64.wrap (z + 1)) (acc ++ [p.name]) (no + [[D.str p.name]].length) (oD.take no ++ [[D.str p.name]]) lf st (by omega) (by omega) (wrap_up hz (by omega)) (by simp) (by rw [List.length_append, List.length_singleton]; omega) (by rw [h2, List.length_append]; rfl) (by rw [h3, h2, sL_app1])
      rw [List.append_assoc, List.singleton_append] at hih
      generalize acc ++ p.name :: namesOf kind (ps.drop (i + 1)) = q at *
      generalize hpc : ps.map PlaceT.cells = pl at *
      obtain ⟨kd, nm, nv, ar, ou⟩ := p
      dsimp only at *
      subst hk
      refine loop_step hp ?_
      conv => lhs; whnf
      refine iteK_dec_t hend ?_
      conv => lhs; whnf
      refine nextK_of (aop_ix rfl rfl rfl rfl (ixL_at' hz hpg rfl)) ?_
      conv => lhs; whnf
      refine iteK_beq (fun h1 => ?_) (fun h1 => ?_)
      · rw [beq_t h1]
        conv => lhs; whnf
        refine nextK_of (aop_app rfl rfl rfl rfl rfl rfl rfl rfl rfl rfl rfl rfl (lenS1 (by omega))) ?_
        conv => lhs; whnf
        refine Eq.trans (hih lf _ (by omega) rfl) ?_
        rfl
      · rw [beq_f h1]
        (exfalso; omega)
    · rw [namesOf_no _ hk]
      have hih := fun lf st => ihm (i + 1) (IntKind.i64.wrap (z + 1)) acc no oD lf st (by omega) (by omega) (wrap_up hz (by omega)) ha (by omega) h2 h3
      generalize acc ++ namesOf kind (ps.drop (i + 1)) = q at *
      generalize hpc : ps.map PlaceT.cells = pl at *
      obtain ⟨kd, nm, nv, ar, ou⟩ := p
      dsimp only at *
      refine loop_step hp ?_
      conv => lhs; whnf
      refine iteK_dec_t hend ?_
      conv => lhs; whnf
      refine nextK_of (aop_ix rfl rfl rfl rfl (ixL_at' hz hpg rfl)) ?_
      conv => lhs; whnf
      refine iteK_beq_f hk ?_
      conv => lhs; whnf
      refine Eq.trans (hih lf _ (by omega) rfl) ?_
      rfl
theorem nmNil (j : Nat) (kind : Int) (ps : List PlaceT) (hps : ps.length ≤ 5000) {lp : LP} (hlp : lp = lpOf Try.prog cfg (icall Try.prog cfg j) Try.f32.ntmps 32 j (([] : Hp).map (·.1))) :
    ∀ (m i : Nat) (z : Int) (lf : Nat) (st : St), ps.length - i = m → i ≤ ps.length → z = (i : Int) → m < lf → prune [] [1, 5, 9, 10, 11] st = some ⟨nmF kind .nilsl (ps.map PlaceT.cells) z, []⟩ →
      loopK Try.prog cfg (icall Try.prog cfg j) lp Try.f32.ntmps 32 [] (bodyAt Try.f32 3) lf st (exitP [] (some [5])) = nmY (namesOf kind (ps.drop i)) := by
  have hmx : 200000 ≤ maxLen := by decide
  intro m
  induction m with
  | zero =>
    intro i z lf st hi hle hz hlf hp
    obtain ⟨lf, rfl⟩ : ∃ n, lf = n + 1 := ⟨lf - 1, by omega⟩
    have hend : ¬ z < ((ps.map PlaceT.cells).length : Int) := by rw [List.length_map]; omega
    rw [List.drop_eq_nil_of_le (by omega), show namesOf kind [] = [] from rfl]
    generalize hpc : ps.map PlaceT.cells = pl at *
    refine loop_step hp ?_
    conv => lhs; whnf
    refine iteK_dec_f hend ?_
    conv => lhs; whnf
    refine Eq.trans (b := some (Fx.exit (0 : Nat), St.mk [((5 : Nat), AV.nilsl)] [])) (by kernel_rfl) ?_
    rfl
  | succ m ihm =>
    intro i z lf st hi hle hz hlf hp
    obtain ⟨lf, rfl⟩ : ∃ n, lf = n + 1 := ⟨lf - 1, by omega⟩
    have hend : z < ((ps.map PlaceT.cells).length : Int) := by rw [List.length_map]; omega
    have hx : ps[i]? = some ps[i] := List.getElem?_eq_getElem (by omega)
    rw [List.drop_eq_getElem_cons (by omega)]
    generalize ps[i] = p at hx ⊢
    have hpg := place_get hx
    by_cases hk : p.kind = kind
    · rw [namesOf_yes _ hk]
      have hih := fun lf st => nmOwn j kind ps hps hlp m (i + 1) (IntKind.i64.wrap (z + 1)) [p.name] 1 [[D.str p.name]] lf st (by omega) (by omega) (wrap_up hz (by omega)) (by simp) (by simp) rfl rfl
      rw [List.singleton_append] at hih
      generalize p.name :: namesOf kind (ps.drop (i + 1)) = q at *
      generalize hpc : ps.map PlaceT.cells = pl at *
      obtain ⟨kd, nm, nv, ar, ou⟩ := p
      dsimp only at *
      subst hk
      refine loop_step hp ?_
      conv => lhs; whnf
      refine iteK_dec_t hend ?_
      conv => lhs; whnf
      refine nextK_of (aop_ix rfl rfl rfl rfl (ixL_at' hz hpg rfl)) ?_
      conv => lhs; whnf
      refine iteK_beq (fun h1 => ?_) (fun h1 => ?_)
      · rw [beq_t h1]
        conv => lhs; whnf
        refine Eq.trans (hih lf _ (by omega) rfl) ?_
        rfl
      · rw [beq_f h1]
        (exfalso; omega)
    · rw [namesOf_no _ hk]
      have hih := fun lf st => ihm (i + 1) (IntKind.i64.wrap (z + 1)) lf st (by omega) (by omega) (wrap_up hz (by omega))
      generalize namesOf kind (ps.drop (i + 1)) = q at *
      generalize hpc : ps.map PlaceT.cells = pl at *
      obtain ⟨kd, nm, nv, ar, ou⟩ := p
      dsimp only at *
      refine loop_step hp ?_
      conv => lhs; whnf
      refine iteK_dec_t hend ?_
      conv => lhs; whnf
      refine nextK_of (aop_ix rfl rfl rfl rfl (ixL_at' hz hpg rfl)) ?_
      conv => lhs; whnf
      refine iteK_beq_f hk ?_
      conv => lhs; whnf
      refine Eq.trans (hih lf _ (by omega) rfl) ?_
      rfl
theorem named32 (id : List UInt8) (ps : List PlaceT) (hps : ps.length ≤ 5000) (kind : Int) (k : Nat) (hk : 5100 ≤ k) : icall Try.prog cfg k 32 [.agg [.d (.str id), .d (.list (ps.map PlaceT.cells))], .d (.int .i64 kind)] [] = some (.ret (.d (.list (sL (uniq (namesOf kind ps))))), []) := by
  obtain ⟨k, rfl⟩ : ∃ j, k = j + 1 := ⟨k - 1, by omega⟩
  have hL := fun lf st => nmNil k kind ps hps rfl ps.length 0 0 lf st rfl (Nat.zero_le _) rfl
  rw [List.drop_zero] at hL
  have hnl := namesOf_len kind ps
  have hlf : ps.length < k := by omega
  cases hn : namesOf kind ps with
  | nil =>
    rw [hn] at hL
    simp only [nmY] at hL
    rw [uniq_nil]
    have c4 := srt0 k (by omega)
    have c5 := cmp0 k (by omega)
    generalize hpc : ps.map PlaceT.cells = pl at *
    rw [icall_body rfl Try.func32]
    obtain ⟨lp, hlp⟩ : ∃ lp, lp = lpOf Try.prog cfg (icall Try.prog cfg k) Try.f32.ntmps 32 k (([] : Hp).map (·.1)) := ⟨_, rfl⟩
    rw [← hlp]
    rw [← (show lp = lpOf Try.prog cfg (icall Try.prog cfg k) Try.f32.ntmps 32 k (([] : Hp).map (·.1)) from hlp)] at hL
    conv => lhs; whnf
    refine nextK_of (loop_at hlp (hL k _ hlf rfl)) ?_
    conv => lhs; whnf
    refine nextK_of c4 ?_
    conv => lhs; whnf
    refine nextK_of c5 ?_
    conv => lhs; whnf
    refine Eq.trans (b := some (Res.ret (AV.d (D.list [])), [])) (by kernel_rfl) ?_
    rfl
  | cons x r =>
    rw [hn] at hL hnl
    simp only [nmY] at hL
    have c4 := srt43 (x :: r) (by omega) k (by omega)
    have c5 := cmp44 (sorted (x :: r)) (by rw [sorted_len]; omega) (x :: r).length (sorted_len _).symm k (by omega)
    have ht := sL_full (uniq (x :: r))
    generalize x :: r = L at *
    generalize hpc : ps.map PlaceT.cells = pl at *
    rw [icall_body rfl Try.func32]
    obtain ⟨lp, hlp⟩ : ∃ lp, lp = lpOf Try.prog cfg (icall Try.prog cfg k) Try.f32.ntmps 32 k (([] : Hp).map (·.1)) := ⟨_, rfl⟩
    rw [← hlp]
    rw [← (show lp = lpOf Try.prog cfg (icall Try.prog cfg k) Try.f32.ntmps 32 k (([] : Hp).map (·.1)) from hlp)] at hL
    conv => lhs; whnf
    refine nextK_of (loop_at hlp (hL k _ hlf rfl)) ?_
    conv => lhs; whnf
    refine nextK_of c4 ?_
    conv => lhs; whnf
    refine nextK_of c5 ?_
    conv => lhs; whnf
    refine Eq.trans (b := some (Res.ret (AV.d (D.list (List.take (List.length (List.map (fun x => (List.toArray (sorted L))[x]!) (List.filter (Lib.keeps (List.toArray (sorted L))) (List.range.loop (List.length (List.mergeSort L fun x y => decide (x ≤ y))) [])))) (List.map (fun s => [D.str s]) (List.map (fun x => (List.toArray (sorted L))[x]!) (List.filter (Lib.keeps (List.toArray (sorted L))) (List.range.loop (List.length (List.mergeSort L fun x y => decide (x ≤ y))) []))))))), [])) (by kernel_rfl) ?_
    (exact congrArg (fun x => some (Res.ret (AV.d (D.list x)), ([] : Hp))) ht)
theorem jobs15 (id : List UInt8) (ps : List PlaceT) (hps : ps.length ≤ 5000) (k : Nat) (hk : 5200 ≤ k) : icall Try.prog cfg k 15 [.agg [.d (.str id), .d (.list (ps.map PlaceT.cells))]] [] = some (.ret (.d (.list (sL (uniq (namesOf 2 ps))))), []) := by
  obtain ⟨k, rfl⟩ : ∃ j, k = j + 1 := ⟨k - 1, by omega⟩
  have c := named32 id ps hps 2 k (by omega)
  generalize uniq (namesOf 2 ps) = q at *
  generalize hpc : ps.map PlaceT.cells = pl at *
  rw [icall_body rfl Try.func15]
  obtain ⟨lp, hlp⟩ : ∃ lp, lp = lpOf Try.prog cfg (icall Try.prog cfg k) Try.f15.ntmps 15 k (([] : Hp).map (·.1)) := ⟨_, rfl⟩
  rw [← hlp]
  conv => lhs; whnf
  refine nextK_of c ?_
  conv => lhs; whnf
  refine Eq.trans (b := some (Res.ret (AV.d (D.list (List.map (fun s => [D.str s]) q))), [])) (by kernel_rfl) ?_
  rfl
theorem messages17 (id : List UInt8) (ps : List PlaceT) (hps : ps.length ≤ 5000) (k : Nat) (hk : 5200 ≤ k) : icall Try.prog cfg k 17 [.agg [.d (.str id), .d (.list (ps.map PlaceT.cells))]] [] = some (.ret (.d (.list (sL (uniq (namesOf 6 ps))))), []) := by
  obtain ⟨k, rfl⟩ : ∃ j, k = j + 1 := ⟨k - 1, by omega⟩
  have c := named32 id ps hps 6 k (by omega)
  generalize uniq (namesOf 6 ps) = q at *
  generalize hpc : ps.map PlaceT.cells = pl at *
  rw [icall_body rfl Try.func17]
  obtain ⟨lp, hlp⟩ : ∃ lp, lp = lpOf Try.prog cfg (icall Try.prog cfg k) Try.f17.ntmps 17 k (([] : Hp).map (·.1)) := ⟨_, rfl⟩
  rw [← hlp]
  conv => lhs; whnf
  refine nextK_of c ?_
  conv => lhs; whnf
  refine Eq.trans (b := some (Res.ret (AV.d (D.list (List.map (fun s => [D.str s]) q))), [])) (by kernel_rfl) ?_
  rfl
end Go.Rx12
