/- A part of the proof of the law: what functions of the program come to, walked by Rx, or plain facts on it. -/
import Derived.Test.YtaghcidejnhahaaRMove1
open Go Go.Rx Go.Proofs Go.Rx12 Go.RxTree
set_option maxRecDepth 1000000
set_option maxHeartbeats 4000000
set_option linter.unusedVariables false
set_option linter.unusedSimpArgs false
namespace Go.Rx12
/-- A row begins with what an own row holds. -/
theorem aop_beginT {P : Program} {dst : Nat} {ρ : Operand → AV} {H : Hp} {c : Call} {s x : Operand} {t u e e' : TypeId} {i : TypeInfo} {z : Value} {fs : List Int} (hcal : c.callee = .builtin .append) (hargs : c.args.toList = [s, x]) (hty : c.argTypes.toList = [t, u])
    (ht : P.underlying t = some (.slice e)) (hu : P.underlying u = some (.slice e')) (hi : P.info? e = some i) (hz : i.zero = some z) (hsz : z.cells.size = i.size) (hx : srcOf H (ρ x) = some ((iC fs).take fs.length)) (h1 : i.size = 1) (hb : i.bytes = 8)
    (hs : ρ s = .nilsl) (ho : (H.get (.slot dst)).isNone = true) (hne : fs ≠ []) (hl : fs.length ≤ 1000000) :
    aop P dst ρ H (.call c) = some (.own (.slot dst) 0 fs.length, (.slot dst, .arr e i.size 0 (iC fs)) :: H) := by
  rw [iC_full] at hx
  exact aop_beginF hcal hargs hty ht hu hi hz hsz hx h1 hb hs ho hne hl
theorem lenG {n b : Nat} (h : n ≤ 1000000) (hb : b ≤ 1000) : (n + 1) * (b + 1) ≤ lim :=
  Nat.le_trans (Nat.mul_le_mul (Nat.succ_le_succ h) (Nat.succ_le_succ hb)) (by unfold lim; omega)
theorem iC_app1 (l : List Int) (z : Int) : ((iC l).take l.length ++ [[D.int .i64 z]]).take (l.length + [[D.int .i64 z]].length) = iC (l ++ [z]) := by
  rw [iC_app]; exact List.take_of_length_le (by rw [iC_len, List.length_append]; exact Nat.le_refl _)
abbrev fkF (pA : AV) (py z : Int) : List (Nat × AV) := [(8, .ptr (.slot 8) 0), (10, .ptr (.slot 10) 0), (11, .ptr (.slot 11) 0), (13, pA), (14, .d (.int .i64 py)), (15, .d (.int .i64 z))]
abbrev fkH (p : PlaceT) (tA cA : AV) (R : Hp) : Hp := [(.slot 8, .cells [.nilsl, .nilsl]), (.slot 10, .cells (plC p)), (.slot 11, .cells [tA, cA])] ++ R
abbrev fkX (T C : Nat) (acc : List TokT) (nc : Nat) (cD : List (List D)) : Option (Fx × St) := some (.exit 2, ⟨[(8, .ptr (.slot 8) 0), (11, .ptr (.slot 11) 0)],
  [(.slot 8, .cells [.nilsl, .nilsl]), (.slot 11, .cells [.own (.slot T) 0 acc.length, .own (.slot C) 0 nc]), (.slot T, .arr 49 2 0 (tC acc)), (.slot C, .arr 3 1 0 cD)]⟩)
theorem fkA (p : PlaceT) (n : Nat) (ho : outsOk p.out n) (hol : p.out.length ≤ 16) (py : Int) (nc : Nat) (cD : List (List D)) (j : Nat) {lp : LP} (hlp : lp = lpOf Try.prog cfg (icall Try.prog cfg j) Try.f21.ntmps 21 j (([] : Hp).map (·.1))) :
    ∀ (m i : Nat) (z : Int) (acc : List TokT) (nt : Nat) (tD : List (List D)) (lf : Nat) (st : St), p.out.length - i = m → i ≤ p.out.length → z = (i : Int) → acc.length ≤ 10000 + i → nt = acc.length → tD = tC acc → m < lf → prune [] [8, 10, 11, 13, 14, 15] st = some ⟨fkF .nilsl py z, fkH p (.own (.slot 101) 0 nt) (.own (.slot 74) 0 nc) [(.slot 101, .arr 49 2 0 tD), (.slot 74, .arr 3 1 0 cD)]⟩ →
      loopK Try.prog cfg (icall Try.prog cfg j) lp Try.f21.ntmps 21 [] (bodyAt Try.f21 18) lf st (exitP [] (some [8, 11])) = fkX 101 74 (acc ++ forkT (p.out.drop i) [py]) nc cD := by
  have hmx : 10000 ≤ maxLen := by decide
  obtain ⟨kd, nm, nv, ar, ou⟩ := p
  dsimp only at hol ho ⊢
  intro m
  induction m with
  | zero =>
    intro i z acc nt tD lf st hi hle hz h1 h2 h3 hlf hp
    obtain ⟨lf, rfl⟩ : ∃ n, lf = n + 1 := ⟨lf - 1, by omega⟩
    have hend : ¬ z < ((ou.map FlowT.cells).length : Int) := by rw [List.length_map]; omega
    rw [List.drop_eq_nil_of_le (by omega), show forkT [] [py] = [] from rfl, List.append_nil]
    subst h2; subst h3
    refine loop_step hp ?_
    conv => lhs; whnf
    refine iteK_dec_f hend ?_
    conv => lhs; whnf
    refine Eq.trans (b := some (Fx.exit (2 : Nat), St.mk [((8 : Nat), AV.ptr (Nm.slot (8 : Nat)) (0 : Nat)), ((11 : Nat), AV.ptr (Nm.slot (11 : Nat)) (0 : Nat))] [(Nm.slot (8 : Nat), AObj.cells [AV.nilsl, AV.nilsl]), (Nm.slot (11 : Nat), AObj.cells [AV.own (Nm.slot (101 : Nat)) (0 : Nat) (List.length acc), AV.own (Nm.slot (74 : Nat)) (0 : Nat) nc]), (Nm.slot (101 : Nat), AObj.arr (49 : Nat) (2 : Nat) (0 : Nat) (tC acc)), (Nm.slot (74 : Nat), AObj.arr (3 : Nat) (1 : Nat) (0 : Nat) cD)])) (by kernel_rfl) ?_
    rfl
  | succ m ihm =>
    intro i z acc nt tD lf st hi hle hz h1 h2 h3 hlf hp
    obtain ⟨lf, rfl⟩ : ∃ n, lf = n + 1 := ⟨lf - 1, by omega⟩
    have hend : z < ((ou.map FlowT.cells).length : Int) := by rw [List.length_map]; omega
    have hx : ou[i]? = some ou[i] := List.getElem?_eq_getElem (by omega)
    generalize ou[i] = o at hx
    rw [forkT_drop hx]
    have hf := flow_get hx
    obtain ⟨to, oi⟩ := o
    dsimp only at hf ⊢
    have hih := fun lf st => ihm (i + 1) (IntKind.i64.wrap (z + 1)) (acc ++ [(to, [py])]) (nt + [[D.int .i64 to, D.list [[D.int .i64 py]]]].length) (tD.take nt ++ [[D.int .i64 to, D.list [[D.int .i64 py]]]]) lf st (by omega) (by omega) (wrap_up hz (by omega)) (by rw [List.length_append, List.length_singleton]; omega) (by rw [h2, List.length_append]; rfl) (by rw [h3, h2, show [[D.int IntKind.i64 py]] = iC [py] from rfl, tC_app])
    rw [List.append_assoc, List.singleton_append] at hih
    generalize acc ++ (to, [py]) :: forkT (ou.drop (i + 1)) [py] = q at *
    refine loop_step hp ?_
    conv => lhs; whnf
    refine iteK_dec_t hend ?_
    conv => lhs; whnf
    refine iteO_t (by kernel_rfl) ?_
    conv => lhs; whnf
    refine nextK_of (aop_ix rfl rfl rfl rfl (ixL_at' hz hf rfl)) ?_
    conv => lhs; whnf
    refine nextK_of (aop_app rfl rfl rfl rfl rfl rfl rfl rfl rfl rfl rfl rfl (lenG (by omega) (Nat.le_of_ble_eq_true rfl))) ?_
    conv => lhs; whnf
    refine iteO_t (by kernel_rfl) ?_
    conv => lhs; whnf
    refine Eq.trans (hih lf _ (by omega) rfl) ?_
    rfl
theorem fkAf (p : PlaceT) (n : Nat) (ho : outsOk p.out n) (hol : p.out.length ≤ 16) (py : Int) (nc : Nat) (cD : List (List D)) (j : Nat) (h0 : 0 < p.out.length) {lp : LP} (hlp : lp = lpOf Try.prog cfg (icall Try.prog cfg j) Try.f21.ntmps 21 j (([] : Hp).map (·.1)))
    (z : Int) (hz : z = ((0 : Nat) : Int)) (lf : Nat) (st : St) (hlf : p.out.length < lf) (hp : prune [] [8, 10, 11, 13, 14, 15] st = some ⟨fkF .nilsl py z, fkH p .nilsl (.own (.slot 74) 0 nc) [(.slot 74, .arr 3 1 0 cD)]⟩) :
      loopK Try.prog cfg (icall Try.prog cfg j) lp Try.f21.ntmps 21 [] (bodyAt Try.f21 18) lf st (exitP [] (some [8, 11])) = fkX 101 74 (forkT p.out [py]) nc cD := by
  have hmx : 10000 ≤ maxLen := by decide
  obtain ⟨kd, nm, nv, ar, ou⟩ := p
  dsimp only at hol ho h0 hlf ⊢
  obtain ⟨lf, rfl⟩ : ∃ n, lf = n + 1 := ⟨lf - 1, by omega⟩
  have hend : z < ((ou.map FlowT.cells).length : Int) := by rw [List.length_map]; omega
  have hx : ou[0]? = some ou[0] := List.getElem?_eq_getElem (by omega)
  generalize ou[0] = o at hx
  have hd := forkT_drop hx [py]
  rw [List.drop_zero] at hd
  rw [hd]
  have hf := flow_get hx
  obtain ⟨to, oi⟩ := o
  dsimp only at hf ⊢
  have hih := fun lf st => fkA ⟨kd, nm, nv, ar, ou⟩ n ho hol py nc cD j hlp (ou.length - 1) (0 + 1) (IntKind.i64.wrap (z + 1)) [(to, [py])] 1 [[D.int .i64 to, D.list [[D.int .i64 py]]]] lf st (by show ou.length - (0 + 1) = _; omega) (by show 0 + 1 ≤ ou.length; omega) (wrap_up hz (by omega)) (by simp) rfl (by rfl)
  rw [List.singleton_append] at hih
  dsimp only at hih
  generalize (to, [py]) :: forkT (ou.drop (0 + 1)) [py] = q at *
  refine loop_step hp ?_
  conv => lhs; whnf
  refine iteK_dec_t hend ?_
  conv => lhs; whnf
  refine iteO_t (by kernel_rfl) ?_
  conv => lhs; whnf
  refine nextK_of (aop_ix rfl rfl rfl rfl (ixL_at' hz hf rfl)) ?_
  conv => lhs; whnf
  refine iteO_t (by kernel_rfl) ?_
  conv => lhs; whnf
  refine Eq.trans (hih lf _ (by omega) rfl) ?_
  rfl
theorem fkB (p : PlaceT) (n : Nat) (ho : outsOk p.out n) (hol : p.out.length ≤ 16) (py : Int) (nc : Nat) (cD : List (List D)) (j : Nat) {lp : LP} (hlp : lp = lpOf Try.prog cfg (icall Try.prog cfg j) Try.f21.ntmps 21 j (([] : Hp).map (·.1))) :
    ∀ (m i : Nat) (z : Int) (acc : List TokT) (nt : Nat) (tD : List (List D)) (lf : Nat) (st : St), p.out.length - i = m → i ≤ p.out.length → z = (i : Int) → acc.length ≤ 10000 + i → nt = acc.length → tD = tC acc → m < lf → prune [] [8, 10, 11, 13, 14, 15] st = some ⟨fkF .nilsl py z, fkH p (.own (.slot 55) 0 nt) (.own (.slot 35) 0 nc) [(.slot 55, .arr 49 2 0 tD), (.slot 35, .arr 3 1 0 cD)]⟩ →
      loopK Try.prog cfg (icall Try.prog cfg j) lp Try.f21.ntmps 21 [] (bodyAt Try.f21 18) lf st (exitP [] (some [8, 11])) = fkX 55 35 (acc ++ forkT (p.out.drop i) [py]) nc cD := by
  have hmx : 10000 ≤ maxLen := by decide
  obtain ⟨kd, nm, nv, ar, ou⟩ := p
  dsimp only at hol ho ⊢
  intro m
  induction m with
  | zero =>
    intro i z acc nt tD lf st hi hle hz h1 h2 h3 hlf hp
    obtain ⟨lf, rfl⟩ : ∃ n, lf = n + 1 := ⟨lf - 1, by omega⟩
    have hend : ¬ z < ((ou.map FlowT.cells).length : Int) := by rw [List.length_map]; omega
    rw [List.drop_eq_nil_of_le (by omega), show forkT [] [py] = [] from rfl, List.append_nil]
    subst h2; subst h3
    refine loop_step hp ?_
    conv => lhs; whnf
    refine iteK_dec_f hend ?_
    conv => lhs; whnf
    refine Eq.trans (b := some (Fx.exit (2 : Nat), St.mk [((8 : Nat), AV.ptr (Nm.slot (8 : Nat)) (0 : Nat)), ((11 : Nat), AV.ptr (Nm.slot (11 : Nat)) (0 : Nat))] [(Nm.slot (8 : Nat), AObj.cells [AV.nilsl, AV.nilsl]), (Nm.slot (11 : Nat), AObj.cells [AV.own (Nm.slot (55 : Nat)) (0 : Nat) (List.length acc), AV.own (Nm.slot (35 : Nat)) (0 : Nat) nc]), (Nm.slot (55 : Nat), AObj.arr (49 : Nat) (2 : Nat) (0 : Nat) (tC acc)), (Nm.slot (35 : Nat), AObj.arr (3 : Nat) (1 : Nat) (0 : Nat) cD)])) (by kernel_rfl) ?_
    rfl
  | succ m ihm =>
    intro i z acc nt tD lf st hi hle hz h1 h2 h3 hlf hp
    obtain ⟨lf, rfl⟩ : ∃ n, lf = n + 1 := ⟨lf - 1, by omega⟩
    have hend : z < ((ou.map FlowT.cells).length : Int) := by rw [List.length_map]; omega
    have hx : ou[i]? = some ou[i] := List.getElem?_eq_getElem (by omega)
    generalize ou[i] = o at hx
    rw [forkT_drop hx]
    have hf := flow_get hx
    obtain ⟨to, oi⟩ := o
    dsimp only at hf ⊢
    have hih := fun lf st => ihm (i + 1) (IntKind.i64.wrap (z + 1)) (acc ++ [(to, [py])]) (nt + [[D.int .i64 to, D.list [[D.int .i64 py]]]].length) (tD.take nt ++ [[D.int .i64 to, D.list [[D.int .i64 py]]]]) lf st (by omega) (by omega) (wrap_up hz (by omega)) (by rw [List.length_append, List.length_singleton]; omega) (by rw [h2, List.length_append]; rfl) (by rw [h3, h2, show [[D.int IntKind.i64 py]] = iC [py] from rfl, tC_app])
    rw [List.append_assoc, List.singleton_append] at hih
    generalize acc ++ (to, [py]) :: forkT (ou.drop (i + 1)) [py] = q at *
    refine loop_step hp ?_
    conv => lhs; whnf
    refine iteK_dec_t hend ?_
    conv => lhs; whnf
    refine iteO_t (by kernel_rfl) ?_
    conv => lhs; whnf
    refine nextK_of (aop_ix rfl rfl rfl rfl (ixL_at' hz hf rfl)) ?_
    conv => lhs; whnf
    refine nextK_of (aop_app rfl rfl rfl rfl rfl rfl rfl rfl rfl rfl rfl rfl (lenG (by omega) (Nat.le_of_ble_eq_true rfl))) ?_
    conv => lhs; whnf
    refine iteO_t (by kernel_rfl) ?_
    conv => lhs; whnf
    refine Eq.trans (hih lf _ (by omega) rfl) ?_
    rfl
theorem fkC (p : PlaceT) (n : Nat) (ho : outsOk p.out n) (hol : p.out.length ≤ 16) (py : Int) (nc : Nat) (cD : List (List D)) (j : Nat) {lp : LP} (hlp : lp = lpOf Try.prog cfg (icall Try.prog cfg j) Try.f21.ntmps 21 j (([] : Hp).map (·.1))) :
    ∀ (m i : Nat) (z : Int) (acc : List TokT) (nt : Nat) (tD : List (List D)) (lf : Nat) (st : St), p.out.length - i = m → i ≤ p.out.length → z = (i : Int) → acc.length ≤ 10000 + i → nt = acc.length → tD = tC acc → m < lf → prune [] [8, 10, 11, 13, 14, 15] st = some ⟨fkF .nilsl py z, fkH p (.own (.slot 101) 0 nt) (.own (.slot 35) 0 nc) [(.slot 101, .arr 49 2 0 tD), (.slot 35, .arr 3 1 0 cD)]⟩ →
      loopK Try.prog cfg (icall Try.prog cfg j) lp Try.f21.ntmps 21 [] (bodyAt Try.f21 18) lf st (exitP [] (some [8, 11])) = fkX 101 35 (acc ++ forkT (p.out.drop i) [py]) nc cD := by
  have hmx : 10000 ≤ maxLen := by decide
  obtain ⟨kd, nm, nv, ar, ou⟩ := p
  dsimp only at hol ho ⊢
  intro m
  induction m with
  | zero =>
    intro i z acc nt tD lf st hi hle hz h1 h2 h3 hlf hp
    obtain ⟨lf, rfl⟩ : ∃ n, lf = n + 1 := ⟨lf - 1, by omega⟩
    have hend : ¬ z < ((ou.map FlowT.cells).length : Int) := by rw [List.length_map]; omega
    rw [List.drop_eq_nil_of_le (by omega), show forkT [] [py] = [] from rfl, List.append_nil]
    subst h2; subst h3
    refine loop_step hp ?_
    conv => lhs; whnf
    refine iteK_dec_f hend ?_
    conv => lhs; whnf
    refine Eq.trans (b := some (Fx.exit (2 : Nat), St.mk [((8 : Nat), AV.ptr (Nm.slot (8 : Nat)) (0 : Nat)), ((11 : Nat), AV.ptr (Nm.slot (11 : Nat)) (0 : Nat))] [(Nm.slot (8 : Nat), AObj.cells [AV.nilsl, AV.nilsl]), (Nm.slot (11 : Nat), AObj.cells [AV.own (Nm.slot (101 : Nat)) (0 : Nat) (List.length acc), AV.own (Nm.slot (35 : Nat)) (0 : Nat) nc]), (Nm.slot (101 : Nat), AObj.arr (49 : Nat) (2 : Nat) (0 : Nat) (tC acc)), (Nm.slot (35 : Nat), AObj.arr (3 : Nat) (1 : Nat) (0 : Nat) cD)])) (by kernel_rfl) ?_
    rfl
  | succ m ihm =>
    intro i z acc nt tD lf st hi hle hz h1 h2 h3 hlf hp
    obtain ⟨lf, rfl⟩ : ∃ n, lf = n + 1 := ⟨lf - 1, by omega⟩
    have hend : z < ((ou.map FlowT.cells).length : Int) := by rw [List.length_map]; omega
    have hx : ou[i]? = some ou[i] := List.getElem?_eq_getElem (by omega)
    generalize ou[i] = o at hx
    rw [forkT_drop hx]
    have hf := flow_get hx
    obtain ⟨to, oi⟩ := o
    dsimp only at hf ⊢
    have hih := fun lf st => ihm (i + 1) (IntKind.i64.wrap (z + 1)) (acc ++ [(to, [py])]) (nt + [[D.int .i64 to, D.list [[D.int .i64 py]]]].length) (tD.take nt ++ [[D.int .i64 to, D.list [[D.int .i64 py]]]]) lf st (by omega) (by omega) (wrap_up hz (by omega)) (by rw [List.length_append, List.length_singleton]; omega) (by rw [h2, List.length_append]; rfl) (by rw [h3, h2, show [[D.int IntKind.i64 py]] = iC [py] from rfl, tC_app])
    rw [List.append_assoc, List.singleton_append] at hih
    generalize acc ++ (to, [py]) :: forkT (ou.drop (i + 1)) [py] = q at *
    refine loop_step hp ?_
    conv => lhs; whnf
    refine iteK_dec_t hend ?_
    conv => lhs; whnf
    refine iteO_t (by kernel_rfl) ?_
    conv => lhs; whnf
    refine nextK_of (aop_ix rfl rfl rfl rfl (ixL_at' hz hf rfl)) ?_
    conv => lhs; whnf
    refine nextK_of (aop_app rfl rfl rfl rfl rfl rfl rfl rfl rfl rfl rfl rfl (lenG (by omega) (Nat.le_of_ble_eq_true rfl))) ?_
    conv => lhs; whnf
    refine iteO_t (by kernel_rfl) ?_
    conv => lhs; whnf
    refine Eq.trans (hih lf _ (by omega) rfl) ?_
    rfl
theorem fkCf (p : PlaceT) (n : Nat) (ho : outsOk p.out n) (hol : p.out.length ≤ 16) (py : Int) (nc : Nat) (cD : List (List D)) (j : Nat) (h0 : 0 < p.out.length) {lp : LP} (hlp : lp = lpOf Try.prog cfg (icall Try.prog cfg j) Try.f21.ntmps 21 j (([] : Hp).map (·.1)))
    (z : Int) (hz : z = ((0 : Nat) : Int)) (lf : Nat) (st : St) (hlf : p.out.length < lf) (hp : prune [] [8, 10, 11, 13, 14, 15] st = some ⟨fkF .nilsl py z, fkH p .nilsl (.own (.slot 35) 0 nc) [(.slot 35, .arr 3 1 0 cD)]⟩) :
      loopK Try.prog cfg (icall Try.prog cfg j) lp Try.f21.ntmps 21 [] (bodyAt Try.f21 18) lf st (exitP [] (some [8, 11])) = fkX 101 35 (forkT p.out [py]) nc cD := by
  have hmx : 10000 ≤ maxLen := by decide
  obtain ⟨kd, nm, nv, ar, ou⟩ := p
  dsimp only at hol ho h0 hlf ⊢
  obtain ⟨lf, rfl⟩ : ∃ n, lf = n + 1 := ⟨lf - 1, by omega⟩
  have hend : z < ((ou.map FlowT.cells).length : Int) := by rw [List.length_map]; omega
  have hx : ou[0]? = some ou[0] := List.getElem?_eq_getElem (by omega)
  generalize ou[0] = o at hx
  have hd := forkT_drop hx [py]
  rw [List.drop_zero] at hd
  rw [hd]
  have hf := flow_get hx
  obtain ⟨to, oi⟩ := o
  dsimp only at hf ⊢
  have hih := fun lf st => fkC ⟨kd, nm, nv, ar, ou⟩ n ho hol py nc cD j hlp (ou.length - 1) (0 + 1) (IntKind.i64.wrap (z + 1)) [(to, [py])] 1 [[D.int .i64 to, D.list [[D.int .i64 py]]]] lf st (by show ou.length - (0 + 1) = _; omega) (by show 0 + 1 ≤ ou.length; omega) (wrap_up hz (by omega)) (by simp) rfl (by rfl)
  rw [List.singleton_append] at hih
  dsimp only at hih
  generalize (to, [py]) :: forkT (ou.drop (0 + 1)) [py] = q at *
  refine loop_step hp ?_
  conv => lhs; whnf
  refine iteK_dec_t hend ?_
  conv => lhs; whnf
  refine iteO_t (by kernel_rfl) ?_
  conv => lhs; whnf
  refine nextK_of (aop_ix rfl rfl rfl rfl (ixL_at' hz hf rfl)) ?_
  conv => lhs; whnf
  refine iteO_t (by kernel_rfl) ?_
  conv => lhs; whnf
  refine Eq.trans (hih lf _ (by omega) rfl) ?_
  rfl
theorem fkD (p : PlaceT) (n : Nat) (ho : outsOk p.out n) (hol : p.out.length ≤ 16) (py : Int) (pys : List Int) (hp0 : pys ≠ []) (hpl : pys.length ≤ 1000) (nc : Nat) (cD : List (List D)) (j : Nat) {lp : LP} (hlp : lp = lpOf Try.prog cfg (icall Try.prog cfg j) Try.f21.ntmps 21 j (([] : Hp).map (·.1))) :
    ∀ (m i : Nat) (z : Int) (acc : List TokT) (nt : Nat) (tD : List (List D)) (lf : Nat) (st : St), p.out.length - i = m → i ≤ p.out.length → z = (i : Int) → acc.length ≤ 10000 + i → nt = acc.length → tD = tC acc → m < lf → prune [] [8, 10, 11, 13, 14, 15] st = some ⟨fkF (.own (.slot 64) 0 pys.length) py z, fkH p (.own (.slot 55) 0 nt) (.own (.slot 35) 0 nc) [(.slot 64, .arr 3 1 0 (iC pys)), (.slot 55, .arr 49 2 0 tD), (.slot 35, .arr 3 1 0 cD)]⟩ →
      loopK Try.prog cfg (icall Try.prog cfg j) lp Try.f21.ntmps 21 [] (bodyAt Try.f21 18) lf st (exitP [] (some [8, 11])) = fkX 55 35 (acc ++ forkT (p.out.drop i) (pys ++ [py])) nc cD := by
  have hmx : 10000 ≤ maxLen := by decide
  obtain ⟨kd, nm, nv, ar, ou⟩ := p
  dsimp only at hol ho ⊢
  intro m
  induction m with
  | zero =>
    intro i z acc nt tD lf st hi hle hz h1 h2 h3 hlf hp
    obtain ⟨lf, rfl⟩ : ∃ n, lf = n + 1 := ⟨lf - 1, by omega⟩
    have hend : ¬ z < ((ou.map FlowT.cells).length : Int) := by rw [List.length_map]; omega
    rw [List.drop_eq_nil_of_le (by omega), show forkT [] (pys ++ [py]) = [] from rfl, List.append_nil]
    subst h2; subst h3
    refine loop_step hp ?_
    conv => lhs; whnf
    refine iteK_dec_f hend ?_
    conv => lhs; whnf
    refine Eq.trans (b := some (Fx.exit (2 : Nat), St.mk [((8 : Nat), AV.ptr (Nm.slot (8 : Nat)) (0 : Nat)), ((11 : Nat), AV.ptr (Nm.slot (11 : Nat)) (0 : Nat))] [(Nm.slot (8 : Nat), AObj.cells [AV.nilsl, AV.nilsl]), (Nm.slot (11 : Nat), AObj.cells [AV.own (Nm.slot (55 : Nat)) (0 : Nat) (List.length acc), AV.own (Nm.slot (35 : Nat)) (0 : Nat) nc]), (Nm.slot (55 : Nat), AObj.arr (49 : Nat) (2 : Nat) (0 : Nat) (tC acc)), (Nm.slot (35 : Nat), AObj.arr (3 : Nat) (1 : Nat) (0 : Nat) cD)])) (by kernel_rfl) ?_
    rfl
  | succ m ihm =>
    intro i z acc nt tD lf st hi hle hz h1 h2 h3 hlf hp
    obtain ⟨lf, rfl⟩ : ∃ n, lf = n + 1 := ⟨lf - 1, by omega⟩
    have hend : z < ((ou.map FlowT.cells).length : Int) := by rw [List.length_map]; omega
    have hx : ou[i]? = some ou[i] := List.getElem?_eq_getElem (by omega)
    generalize ou[i] = o at hx
    rw [forkT_drop hx]
    have hf := flow_get hx
    obtain ⟨to, oi⟩ := o
    dsimp only at hf ⊢
    have hih := fun lf st => ihm (i + 1) (IntKind.i64.wrap (z + 1)) (acc ++ [(to, (pys ++ [py]))]) (nt + [[D.int .i64 to, D.list (((iC pys).take pys.length ++ [[D.int .i64 py]]).take (pys.length + [[D.int .i64 py]].length))]].length) (tD.take nt ++ [[D.int .i64 to, D.list (((iC pys).take pys.length ++ [[D.int .i64 py]]).take (pys.length + [[D.int .i64 py]].length))]]) lf st (by omega) (by omega) (wrap_up hz (by omega)) (by rw [List.length_append, List.length_singleton]; omega) (by rw [h2, List.length_append]; rfl) (by rw [h3, h2, iC_app1, tC_app])
    rw [List.append_assoc, List.singleton_append] at hih
    generalize acc ++ (to, (pys ++ [py])) :: forkT (ou.drop (i + 1)) (pys ++ [py]) = q at *
    refine loop_step hp ?_
    conv => lhs; whnf
    refine iteK_dec_t hend ?_
    conv => lhs; whnf
    refine nextK_of (aop_beginT (fs := pys) rfl rfl rfl rfl rfl rfl rfl rfl rfl rfl rfl rfl rfl hp0 (by omega)) ?_
    conv => lhs; whnf
    refine nextK_of (aop_app rfl rfl rfl rfl rfl rfl rfl rfl rfl rfl rfl rfl (lenG (by omega) (Nat.le_of_ble_eq_true rfl))) ?_
    conv => lhs; whnf
    refine iteO_t (by kernel_rfl) ?_
    conv => lhs; whnf
    refine nextK_of (aop_ix rfl rfl rfl rfl (ixL_at' hz hf rfl)) ?_
    conv => lhs; whnf
    refine nextK_of (aop_app rfl rfl rfl rfl rfl rfl rfl rfl rfl rfl rfl rfl (lenG (by omega) (Nat.le_of_ble_eq_true rfl))) ?_
    conv => lhs; whnf
    refine iteO_t (by kernel_rfl) ?_
    conv => lhs; whnf
    refine Eq.trans (hih lf _ (by omega) rfl) ?_
    rfl
theorem fkE (p : PlaceT) (n : Nat) (ho : outsOk p.out n) (hol : p.out.length ≤ 16) (py : Int) (pys : List Int) (hp0 : pys ≠ []) (hpl : pys.length ≤ 1000) (nc : Nat) (cD : List (List D)) (j : Nat) {lp : LP} (hlp : lp = lpOf Try.prog cfg (icall Try.prog cfg j) Try.f21.ntmps 21 j (([] : Hp).map (·.1))) :
    ∀ (m i : Nat) (z : Int) (acc : List TokT) (nt : Nat) (tD : List (List D)) (lf : Nat) (st : St), p.out.length - i = m → i ≤ p.out.length → z = (i : Int) → acc.length ≤ 10000 + i → nt = acc.length → tD = tC acc → m < lf → prune [] [8, 10, 11, 13, 14, 15] st = some ⟨fkF (.own (.slot 64) 0 pys.length) py z, fkH p (.own (.slot 101) 0 nt) (.own (.slot 35) 0 nc) [(.slot 64, .arr 3 1 0 (iC pys)), (.slot 101, .arr 49 2 0 tD), (.slot 35, .arr 3 1 0 cD)]⟩ →
      loopK Try.prog cfg (icall Try.prog cfg j) lp Try.f21.ntmps 21 [] (bodyAt Try.f21 18) lf st (exitP [] (some [8, 11])) = fkX 101 35 (acc ++ forkT (p.out.drop i) (pys ++ [py])) nc cD := by
  have hmx : 10000 ≤ maxLen := by decide
  obtain ⟨kd, nm, nv, ar, ou⟩ := p
  dsimp only at hol ho ⊢
  intro m
  induction m with
  | zero =>
    intro i z acc nt tD lf st hi hle hz h1 h2 h3 hlf hp
    obtain ⟨lf, rfl⟩ : ∃ n, lf = n + 1 := ⟨lf - 1, by omega⟩
    have hend : ¬ z < ((ou.map FlowT.cells).length : Int) := by rw [List.length_map]; omega
    rw [List.drop_eq_nil_of_le (by omega), show forkT [] (pys ++ [py]) = [] from rfl, List.append_nil]
    subst h2; subst h3
    refine loop_step hp ?_
    conv => lhs; whnf
    refine iteK_dec_f hend ?_
    conv => lhs; whnf
    refine Eq.trans (b := some (Fx.exit (2 : Nat), St.mk [((8 : Nat), AV.ptr (Nm.slot (8 : Nat)) (0 : Nat)), ((11 : Nat), AV.ptr (Nm.slot (11 : Nat)) (0 : Nat))] [(Nm.slot (8 : Nat), AObj.cells [AV.nilsl, AV.nilsl]), (Nm.slot (11 : Nat), AObj.cells [AV.own (Nm.slot (101 : Nat)) (0 : Nat) (List.length acc), AV.own (Nm.slot (35 : Nat)) (0 : Nat) nc]), (Nm.slot (101 : Nat), AObj.arr (49 : Nat) (2 : Nat) (0 : Nat) (tC acc)), (Nm.slot (35 : Nat), AObj.arr (3 : Nat) (1 : Nat) (0 : Nat) cD)])) (by kernel_rfl) ?_
    rfl
  | succ m ihm =>
    intro i z acc nt tD lf st hi hle hz h1 h2 h3 hlf hp
    obtain ⟨lf, rfl⟩ : ∃ n, lf = n + 1 := ⟨lf - 1, by omega⟩
    have hend : z < ((ou.map FlowT.cells).length : Int) := by rw [List.length_map]; omega
    have hx : ou[i]? = some ou[i] := List.getElem?_eq_getElem (by omega)
    generalize ou[i] = o at hx
    rw [forkT_drop hx]
    have hf := flow_get hx
    obtain ⟨to, oi⟩ := o
    dsimp only at hf ⊢
    have hih := fun lf st => ihm (i + 1) (IntKind.i64.wrap (z + 1)) (acc ++ [(to, (pys ++ [py]))]) (nt + [[D.int .i64 to, D.list (((iC pys).take pys.length ++ [[D.int .i64 py]]).take (pys.length + [[D.int .i64 py]].length))]].length) (tD.take nt ++ [[D.int .i64 to, D.list (((iC pys).take pys.length ++ [[D.int .i64 py]]).take (pys.length + [[D.int .i64 py]].length))]]) lf st (by omega) (by omega) (wrap_up hz (by omega)) (by rw [List.length_append, List.length_singleton]; omega) (by rw [h2, List.length_append]; rfl) (by rw [h3, h2, iC_app1, tC_app])
    rw [List.append_assoc, List.singleton_append] at hih
    generalize acc ++ (to, (pys ++ [py])) :: forkT (ou.drop (i + 1)) (pys ++ [py]) = q at *
    refine loop_step hp ?_
    conv => lhs; whnf
    refine iteK_dec_t hend ?_
    conv => lhs; whnf
    refine nextK_of (aop_beginT (fs := pys) rfl rfl rfl rfl rfl rfl rfl rfl rfl rfl rfl rfl rfl hp0 (by omega)) ?_
    conv => lhs; whnf
    refine nextK_of (aop_app rfl rfl rfl rfl rfl rfl rfl rfl rfl rfl rfl rfl (lenG (by omega) (Nat.le_of_ble_eq_true rfl))) ?_
    conv => lhs; whnf
    refine iteO_t (by kernel_rfl) ?_
    conv => lhs; whnf
    refine nextK_of (aop_ix rfl rfl rfl rfl (ixL_at' hz hf rfl)) ?_
    conv => lhs; whnf
    refine nextK_of (aop_app rfl rfl rfl rfl rfl rfl rfl rfl rfl rfl rfl rfl (lenG (by omega) (Nat.le_of_ble_eq_true rfl))) ?_
    conv => lhs; whnf
    refine iteO_t (by kernel_rfl) ?_
    conv => lhs; whnf
    refine Eq.trans (hih lf _ (by omega) rfl) ?_
    rfl
theorem fkEf (p : PlaceT) (n : Nat) (ho : outsOk p.out n) (hol : p.out.length ≤ 16) (py : Int) (pys : List Int) (hp0 : pys ≠ []) (hpl : pys.length ≤ 1000) (nc : Nat) (cD : List (List D)) (j : Nat) (h0 : 0 < p.out.length) {lp : LP} (hlp : lp = lpOf Try.prog cfg (icall Try.prog cfg j) Try.f21.ntmps 21 j (([] : Hp).map (·.1)))
    (z : Int) (hz : z = ((0 : Nat) : Int)) (lf : Nat) (st : St) (hlf : p.out.length < lf) (hp : prune [] [8, 10, 11, 13, 14, 15] st = some ⟨fkF (.own (.slot 64) 0 pys.length) py z, fkH p .nilsl (.own (.slot 35) 0 nc) [(.slot 64, .arr 3 1 0 (iC pys)), (.slot 35, .arr 3 1 0 cD)]⟩) :
      loopK Try.prog cfg (icall Try.prog cfg j) lp Try.f21.ntmps 21 [] (bodyAt Try.f21 18) lf st (exitP [] (some [8, 11])) = fkX 101 35 (forkT p.out (pys ++ [py])) nc cD := by
  have hmx : 10000 ≤ maxLen := by decide
  obtain ⟨kd, nm, nv, ar, ou⟩ := p
  dsimp only at hol ho h0 hlf ⊢
  obtain ⟨lf, rfl⟩ : ∃ n, lf = n + 1 := ⟨lf - 1, by omega⟩
  have hend : z < ((ou.map FlowT.cells).length : Int) := by rw [List.length_map]; omega
  have hx : ou[0]? = some ou[0] := List.getElem?_eq_getElem (by omega)
  generalize ou[0] = o at hx
  have hd := forkT_drop hx (pys ++ [py])
  rw [List.drop_zero] at hd
  rw [hd]
  have hf := flow_get hx
  obtain ⟨to, oi⟩ := o
  dsimp only at hf ⊢
  have hih := fun lf st => fkE ⟨kd, nm, nv, ar, ou⟩ n ho hol py pys hp0 hpl nc cD j hlp (ou.length - 1) (0 + 1) (IntKind.i64.wrap (z + 1)) [(to, (pys ++ [py]))] 1 [[D.int .i64 to, D.list (((iC pys).take pys.length ++ [[D.int .i64 py]]).take (pys.length + [[D.int .i64 py]].length))]] lf st (by show ou.length - (0 + 1) = _; omega) (by show 0 + 1 ≤ ou.length; omega) (wrap_up hz (by omega)) (by simp) rfl (by rw [iC_app1]; rfl)
  rw [List.singleton_append] at hih
  dsimp only at hih
  generalize (to, (pys ++ [py])) :: forkT (ou.drop (0 + 1)) (pys ++ [py]) = q at *
  refine loop_step hp ?_
  conv => lhs; whnf
  refine iteK_dec_t hend ?_
  conv => lhs; whnf
  refine nextK_of (aop_beginT (fs := pys) rfl rfl rfl rfl rfl rfl rfl rfl rfl rfl rfl rfl rfl hp0 (by omega)) ?_
  conv => lhs; whnf
  refine nextK_of (aop_app rfl rfl rfl rfl rfl rfl rfl rfl rfl rfl rfl rfl (lenG (by omega) (Nat.le_of_ble_eq_true rfl))) ?_
  conv => lhs; whnf
  refine iteO_t (by kernel_rfl) ?_
  conv => lhs; whnf
  refine nextK_of (aop_ix rfl rfl rfl rfl (ixL_at' hz hf rfl)) ?_
  conv => lhs; whnf
  refine iteO_t (by kernel_rfl) ?_
  conv => lhs; whnf
  refine Eq.trans (hih lf _ (by omega) rfl) ?_
  rfl
end Go.Rx12
