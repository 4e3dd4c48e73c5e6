/- A part of the proof of the law: what functions of the program come to, walked by Rx, or plain facts on it. -/
import Derived.Test.YtbeppoonnbfdeaaRCut
open Go Go.Rx Go.Proofs Go.Rx07 Go.RxTree
set_option maxRecDepth 1000000
set_option maxHeartbeats 4000000
set_option linter.unusedVariables false
set_option linter.unusedSimpArgs false
namespace Go.Rx07
theorem wall (l : List W) : (l.map W.cells).all (fun y => y.length == 4) = true := by simp [W.cells]
theorem wfirst {w : W} {r : List W} : ((w :: r).map W.cells)[0]? = some [.int .i64 w.k, .str w.t, .int .i64 w.n, .int .i64 w.at'] := rfl
/-- A part of a row of words. -/
theorem aop_wpart {P : Program} {dst : Nat} {ρ : Operand → AV} {H : Hp} {t e : TypeId} {x : Operand} {lo hi : Option Operand} {l r : List W} {a b : Nat} {lv hv : Option Int} (hx : ρ x = .d (.list (l.map W.cells))) (ht : P.underlying t = some (.slice e)) (hs : sizeT P e = some 4)
    (hl : intV (lo.map ρ) = some lv) (hh : intV (hi.map ρ) = some hv) (hb : bnds l.length lv hv none = some (a, b)) (hr : (l.take b).drop a = r) :
    aop P dst ρ H (.slice t x lo hi none) = some (.d (.list (r.map W.cells)), H) := by
  rw [aop_slice (a := a) (b := b) hx ht hs hl hh rfl (wall l) (by rw [List.length_map]; exact hb), ← List.map_take, ← List.map_drop, hr]
theorem tr_w1 (w : W) (hk : w.k = 1 ∨ w.k = 2) (L : List (List D)) (hg : L[0]? = some [.int .i64 w.k, .str w.t, .int .i64 w.n, .int .i64 w.at']) (k : Nat) (hkk : 400 < k) (cs : icall Try.prog cfg k 40 [.d (.list L)] [] = some (.ret (.d (.int .i64 (-1))), [])) (g1 : w.k = 1) : icall Try.prog cfg (k + 1) 25 [.d (.list L)] [] = some (.ret (T.mk 1 w.n [] []).av, []) := by
  have hs : w.sg = [] := by unfold W.sg; rw [if_neg (by omega)]
  have c1 := is37 w 45 k (by omega)
  have c2 := is37 w 33 k (by omega)
  have c3 := is37 w 40 k (by omega)
  rw [hs] at c1 c2 c3
  rw [icall_body rfl Try.func25]
  obtain ⟨lp, hlp⟩ : ∃ lp, lp = lpOf Try.prog cfg (icall Try.prog cfg k) Try.f25.ntmps 25 k (([] : Hp).map (·.1)) := ⟨_, rfl⟩
  rw [← hlp]
  conv => lhs; whnf
  refine nextK_of cs ?_
  conv => lhs; whnf
  refine nextK_of (aop_ix rfl rfl rfl rfl (ixL_at' (n := 0) rfl hg rfl)) ?_
  conv => lhs; whnf
  refine nextK_of c1 ?_
  conv => lhs; whnf
  refine nextK_of (aop_ix rfl rfl rfl rfl (ixL_at' (n := 0) rfl hg rfl)) ?_
  conv => lhs; whnf
  refine nextK_of c2 ?_
  conv => lhs; whnf
  refine nextK_of (aop_ix rfl rfl rfl rfl (ixL_at' (n := 0) rfl hg rfl)) ?_
  conv => lhs; whnf
  refine nextK_of c3 ?_
  conv => lhs; whnf
  refine nextK_of (aop_ix rfl rfl rfl rfl (ixL_at' (n := 0) rfl hg rfl)) ?_
  conv => lhs; whnf
  refine iteK_beq_t g1 ?_
  conv => lhs; whnf
  refine nextK_of (aop_ix rfl rfl rfl rfl (ixL_at' (n := 0) rfl hg rfl)) ?_
  conv => lhs; whnf
  refine Eq.trans (b := some (Res.ret (AV.agg [AV.d (D.int IntKind.i64 (1 : Int)), AV.d (D.int IntKind.i64 w.n), AV.d (D.str []), AV.d (D.list [])]), [])) (by kernel_rfl) ?_
  rfl
theorem tr_w2 (w : W) (hk : w.k = 1 ∨ w.k = 2) (L : List (List D)) (hg : L[0]? = some [.int .i64 w.k, .str w.t, .int .i64 w.n, .int .i64 w.at']) (k : Nat) (hkk : 400 < k) (cs : icall Try.prog cfg k 40 [.d (.list L)] [] = some (.ret (.d (.int .i64 (-1))), [])) (g1 : w.k ≠ 1) (g2 : w.t = [121, 101, 115]) : icall Try.prog cfg (k + 1) 25 [.d (.list L)] [] = some (.ret (T.mk 3 0 [] []).av, []) := by
  have hs : w.sg = [] := by unfold W.sg; rw [if_neg (by omega)]
  have c1 := is37 w 45 k (by omega)
  have c2 := is37 w 33 k (by omega)
  have c3 := is37 w 40 k (by omega)
  rw [hs] at c1 c2 c3
  rw [icall_body rfl Try.func25]
  obtain ⟨lp, hlp⟩ : ∃ lp, lp = lpOf Try.prog cfg (icall Try.prog cfg k) Try.f25.ntmps 25 k (([] : Hp).map (·.1)) := ⟨_, rfl⟩
  rw [← hlp]
  conv => lhs; whnf
  refine nextK_of cs ?_
  conv => lhs; whnf
  refine nextK_of (aop_ix rfl rfl rfl rfl (ixL_at' (n := 0) rfl hg rfl)) ?_
  conv => lhs; whnf
  refine nextK_of c1 ?_
  conv => lhs; whnf
  refine nextK_of (aop_ix rfl rfl rfl rfl (ixL_at' (n := 0) rfl hg rfl)) ?_
  conv => lhs; whnf
  refine nextK_of c2 ?_
  conv => lhs; whnf
  refine nextK_of (aop_ix rfl rfl rfl rfl (ixL_at' (n := 0) rfl hg rfl)) ?_
  conv => lhs; whnf
  refine nextK_of c3 ?_
  conv => lhs; whnf
  refine nextK_of (aop_ix rfl rfl rfl rfl (ixL_at' (n := 0) rfl hg rfl)) ?_
  conv => lhs; whnf
  refine iteK_beq_f g1 ?_
  conv => lhs; whnf
  refine nextK_of (aop_ix rfl rfl rfl rfl (ixL_at' (n := 0) rfl hg rfl)) ?_
  conv => lhs; whnf
  refine iteK_beq_t g2 ?_
  conv => lhs; whnf
  refine Eq.trans (b := some (Res.ret (AV.agg [AV.d (D.int IntKind.i64 (3 : Int)), AV.d (D.int IntKind.i64 (0 : Int)), AV.d (D.str []), AV.d (D.list [])]), [])) (by kernel_rfl) ?_
  rfl
theorem tr_w3 (w : W) (hk : w.k = 1 ∨ w.k = 2) (L : List (List D)) (hg : L[0]? = some [.int .i64 w.k, .str w.t, .int .i64 w.n, .int .i64 w.at']) (k : Nat) (hkk : 400 < k) (cs : icall Try.prog cfg k 40 [.d (.list L)] [] = some (.ret (.d (.int .i64 (-1))), [])) (g1 : w.k ≠ 1) (g2 : w.t ≠ [121, 101, 115]) (g3 : w.t = [110, 111]) : icall Try.prog cfg (k + 1) 25 [.d (.list L)] [] = some (.ret (T.mk 4 0 [] []).av, []) := by
  have hs : w.sg = [] := by unfold W.sg; rw [if_neg (by omega)]
  have c1 := is37 w 45 k (by omega)
  have c2 := is37 w 33 k (by omega)
  have c3 := is37 w 40 k (by omega)
  rw [hs] at c1 c2 c3
  rw [icall_body rfl Try.func25]
  obtain ⟨lp, hlp⟩ : ∃ lp, lp = lpOf Try.prog cfg (icall Try.prog cfg k) Try.f25.ntmps 25 k (([] : Hp).map (·.1)) := ⟨_, rfl⟩
  rw [← hlp]
  conv => lhs; whnf
  refine nextK_of cs ?_
  conv => lhs; whnf
  refine nextK_of (aop_ix rfl rfl rfl rfl (ixL_at' (n := 0) rfl hg rfl)) ?_
  conv => lhs; whnf
  refine nextK_of c1 ?_
  conv => lhs; whnf
  refine nextK_of (aop_ix rfl rfl rfl rfl (ixL_at' (n := 0) rfl hg rfl)) ?_
  conv => lhs; whnf
  refine nextK_of c2 ?_
  conv => lhs; whnf
  refine nextK_of (aop_ix rfl rfl rfl rfl (ixL_at' (n := 0) rfl hg rfl)) ?_
  conv => lhs; whnf
  refine nextK_of c3 ?_
  conv => lhs; whnf
  refine nextK_of (aop_ix rfl rfl rfl rfl (ixL_at' (n := 0) rfl hg rfl)) ?_
  conv => lhs; whnf
  refine iteK_beq_f g1 ?_
  conv => lhs; whnf
  refine nextK_of (aop_ix rfl rfl rfl rfl (ixL_at' (n := 0) rfl hg rfl)) ?_
  conv => lhs; whnf
  refine iteK_beq_f g2 ?_
  conv => lhs; whnf
  refine nextK_of (aop_ix rfl rfl rfl rfl (ixL_at' (n := 0) rfl hg rfl)) ?_
  conv => lhs; whnf
  refine iteK_beq_t g3 ?_
  conv => lhs; whnf
  refine Eq.trans (b := some (Res.ret (AV.agg [AV.d (D.int IntKind.i64 (4 : Int)), AV.d (D.int IntKind.i64 (0 : Int)), AV.d (D.str []), AV.d (D.list [])]), [])) (by kernel_rfl) ?_
  rfl
theorem tr_w4 (w : W) (hk : w.k = 1 ∨ w.k = 2) (L : List (List D)) (hg : L[0]? = some [.int .i64 w.k, .str w.t, .int .i64 w.n, .int .i64 w.at']) (k : Nat) (hkk : 400 < k) (cs : icall Try.prog cfg k 40 [.d (.list L)] [] = some (.ret (.d (.int .i64 (-1))), [])) (g1 : w.k ≠ 1) (g2 : w.t ≠ [121, 101, 115]) (g3 : w.t ≠ [110, 111]) : icall Try.prog cfg (k + 1) 25 [.d (.list L)] [] = some (.ret (T.mk 2 0 w.t []).av, []) := by
  have hs : w.sg = [] := by unfold W.sg; rw [if_neg (by omega)]
  have c1 := is37 w 45 k (by omega)
  have c2 := is37 w 33 k (by omega)
  have c3 := is37 w 40 k (by omega)
  rw [hs] at c1 c2 c3
  rw [icall_body rfl Try.func25]
  obtain ⟨lp, hlp⟩ : ∃ lp, lp = lpOf Try.prog cfg (icall Try.prog cfg k) Try.f25.ntmps 25 k (([] : Hp).map (·.1)) := ⟨_, rfl⟩
  rw [← hlp]
  conv => lhs; whnf
  refine nextK_of cs ?_
  conv => lhs; whnf
  refine nextK_of (aop_ix rfl rfl rfl rfl (ixL_at' (n := 0) rfl hg rfl)) ?_
  conv => lhs; whnf
  refine nextK_of c1 ?_
  conv => lhs; whnf
  refine nextK_of (aop_ix rfl rfl rfl rfl (ixL_at' (n := 0) rfl hg rfl)) ?_
  conv => lhs; whnf
  refine nextK_of c2 ?_
  conv => lhs; whnf
  refine nextK_of (aop_ix rfl rfl rfl rfl (ixL_at' (n := 0) rfl hg rfl)) ?_
  conv => lhs; whnf
  refine nextK_of c3 ?_
  conv => lhs; whnf
  refine nextK_of (aop_ix rfl rfl rfl rfl (ixL_at' (n := 0) rfl hg rfl)) ?_
  conv => lhs; whnf
  refine iteK_beq_f g1 ?_
  conv => lhs; whnf
  refine nextK_of (aop_ix rfl rfl rfl rfl (ixL_at' (n := 0) rfl hg rfl)) ?_
  conv => lhs; whnf
  refine iteK_beq_f g2 ?_
  conv => lhs; whnf
  refine nextK_of (aop_ix rfl rfl rfl rfl (ixL_at' (n := 0) rfl hg rfl)) ?_
  conv => lhs; whnf
  refine iteK_beq_f g3 ?_
  conv => lhs; whnf
  refine nextK_of (aop_ix rfl rfl rfl rfl (ixL_at' (n := 0) rfl hg rfl)) ?_
  conv => lhs; whnf
  refine Eq.trans (b := some (Res.ret (AV.agg [AV.d (D.int IntKind.i64 (2 : Int)), AV.d (D.int IntKind.i64 (0 : Int)), AV.d (D.str w.t), AV.d (D.list [])]), [])) (by kernel_rfl) ?_
  rfl
theorem tr_word (w : W) (hk : w.k = 1 ∨ w.k = 2) (k : Nat) (hkk : 401 < k) : icall Try.prog cfg k 25 [.d (.list ([w].map W.cells))] [] = some (.ret (wordT w).av, []) := by
  obtain ⟨k, rfl⟩ : ∃ j, k = j + 1 := ⟨k - 1, by omega⟩
  have cs := split40 [w] (by simp) k (by simp; omega)
  rw [cut_none (.word w hk)] at cs
  have hg := wfirst (w := w) (r := [])
  unfold wordT
  by_cases g1 : w.k = 1
  · rw [if_pos g1]; exact tr_w1 w hk _ hg k (by omega) cs g1
  · rw [if_neg g1]
    by_cases g2 : w.t = [121, 101, 115]
    · rw [if_pos g2]; exact tr_w2 w hk _ hg k (by omega) cs g1 g2
    · rw [if_neg g2]
      by_cases g3 : w.t = [110, 111]
      · rw [if_pos g3]; exact tr_w3 w hk _ hg k (by omega) cs g1 g2 g3
      · rw [if_neg g3]; exact tr_w4 w hk _ hg k (by omega) cs g1 g2 g3
theorem tr_un (w : W) (a : List W) (x : T) (hs : w.sg = [45] ∨ w.sg = [33]) (hsg : Seg 6 a x) (ih : (∀ k, 2 * a.length + 401 < k → icall Try.prog cfg k 25 [.d (.list (a.map W.cells))] [] = some (.ret x.av, []))) (hl : (w :: a).length ≤ 50000) (k : Nat) (hkk : 2 * (w :: a).length + 401 < k) : icall Try.prog cfg k 25 [.d (.list ((w :: a).map W.cells))] [] = some (.ret (T.mk (if w.sg = [45] then 5 else 6) 0 [] [x]).av, []) := by
  obtain ⟨k, rfl⟩ : ∃ j, k = j + 1 := ⟨k - 1, by omega⟩
  simp only [List.length_cons] at hl hkk
  have cs := split40 (w :: a) (by simp; omega) k (by simp; omega)
  rw [cut_none (.un w a x hs hsg)] at cs
  replace cs : icall Try.prog cfg k 40 [.d (.list ((w :: a).map W.cells))] [] = some (.ret (.d (.int .i64 (-1))), []) := cs
  have c1 := is37 w 45 k (by omega)
  have c2 := is37 w 33 k (by omega)
  have ct := ih k (by omega)
  have hg := wfirst (w := w) (r := a)
  have hll : ((w :: a).map W.cells).length = a.length + 1 := by rw [List.length_map]; rfl
  have hta : ((w :: a).take (a.length + 1)).drop 1 = a := by rw [List.take_of_length_le (by simp)]; rfl
  have hbb : bnds (w :: a).length (some 1) none none = some (1, a.length + 1) := by rw [List.length_cons]; exact bnds_from rfl (by omega)
  obtain ⟨xk, xn, xs, xl⟩ := x
  rcases hs with hs | hs
  · rw [hs] at c1
    rw [if_pos hs]
    generalize hL : (w :: a).map W.cells = L at *
    have aop_s := fun {P : Program} {dst : Nat} {ρ : Operand → AV} {H : Hp} {t e : TypeId} {x : Operand} {lo hi : Option Operand} (hx : ρ x = .d (.list L)) (ht : P.underlying t = some (.slice e)) (hs : sizeT P e = some 4) (hl : intV (lo.map ρ) = some (some 1)) (hh : intV (hi.map ρ) = some none) => aop_wpart (dst := dst) (H := H) (by rw [hL]; exact hx) ht hs hl hh hbb hta
    rw [icall_body rfl Try.func25]
    obtain ⟨lp, hlp⟩ : ∃ lp, lp = lpOf Try.prog cfg (icall Try.prog cfg k) Try.f25.ntmps 25 k (([] : Hp).map (·.1)) := ⟨_, rfl⟩
    rw [← hlp]
    conv => lhs; whnf
    refine nextK_of cs ?_
    conv => lhs; whnf
    refine nextK_of (aop_ix rfl rfl rfl rfl (ixL_at' (n := 0) rfl hg rfl)) ?_
    conv => lhs; whnf
    refine nextK_of c1 ?_
    conv => lhs; whnf
    refine nextK_of (aop_s rfl rfl rfl rfl rfl) ?_
    conv => lhs; whnf
    refine nextK_of ct ?_
    conv => lhs; whnf
    refine Eq.trans (b := some (Res.ret (AV.agg [AV.d (D.int IntKind.i64 (5 : Int)), AV.d (D.int IntKind.i64 (0 : Int)), AV.d (D.str []), AV.d (D.list [[D.int IntKind.i64 (T.kind (T.mk xk xn xs xl)), D.int IntKind.i64 (T.n (T.mk xk xn xs xl)), D.str (T.name (T.mk xk xn xs xl)), D.list (cellsL (T.kids (T.mk xk xn xs xl)))]])]), [])) (by kernel_rfl) ?_
    rfl
  · rw [hs] at c1 c2
    rw [if_neg (by rw [hs]; decide)]
    generalize hL : (w :: a).map W.cells = L at *
    have aop_s := fun {P : Program} {dst : Nat} {ρ : Operand → AV} {H : Hp} {t e : TypeId} {x : Operand} {lo hi : Option Operand} (hx : ρ x = .d (.list L)) (ht : P.underlying t = some (.slice e)) (hs : sizeT P e = some 4) (hl : intV (lo.map ρ) = some (some 1)) (hh : intV (hi.map ρ) = some none) => aop_wpart (dst := dst) (H := H) (by rw [hL]; exact hx) ht hs hl hh hbb hta
    rw [icall_body rfl Try.func25]
    obtain ⟨lp, hlp⟩ : ∃ lp, lp = lpOf Try.prog cfg (icall Try.prog cfg k) Try.f25.ntmps 25 k (([] : Hp).map (·.1)) := ⟨_, rfl⟩
    rw [← hlp]
    conv => lhs; whnf
    refine nextK_of cs ?_
    conv => lhs; whnf
    refine nextK_of (aop_ix rfl rfl rfl rfl (ixL_at' (n := 0) rfl hg rfl)) ?_
    conv => lhs; whnf
    refine nextK_of c1 ?_
    conv => lhs; whnf
    refine nextK_of (aop_ix rfl rfl rfl rfl (ixL_at' (n := 0) rfl hg rfl)) ?_
    conv => lhs; whnf
    refine nextK_of c2 ?_
    conv => lhs; whnf
    refine nextK_of (aop_s rfl rfl rfl rfl rfl) ?_
    conv => lhs; whnf
    refine nextK_of ct ?_
    conv => lhs; whnf
    refine Eq.trans (b := some (Res.ret (AV.agg [AV.d (D.int IntKind.i64 (6 : Int)), AV.d (D.int IntKind.i64 (0 : Int)), AV.d (D.str []), AV.d (D.list [[D.int IntKind.i64 (T.kind (T.mk xk xn xs xl)), D.int IntKind.i64 (T.n (T.mk xk xn xs xl)), D.str (T.name (T.mk xk xn xs xl)), D.list (cellsL (T.kids (T.mk xk xn xs xl)))]])]), [])) (by kernel_rfl) ?_
    rfl
theorem tr_br (w v : W) (a : List W) (x : T) (hs : w.sg = [40]) (hv : v.sg = [41]) (hsg : Seg 1 a x) (ih : (∀ k, 2 * a.length + 401 < k → icall Try.prog cfg k 25 [.d (.list (a.map W.cells))] [] = some (.ret x.av, []))) (hl : (w :: (a ++ [v])).length ≤ 50000) (k : Nat) (hkk : 2 * (w :: (a ++ [v])).length + 401 < k) : icall Try.prog cfg k 25 [.d (.list ((w :: (a ++ [v])).map W.cells))] [] = some (.ret x.av, []) := by
  obtain ⟨k, rfl⟩ : ∃ j, k = j + 1 := ⟨k - 1, by omega⟩
  simp only [List.length_cons, List.length_append, List.length_nil] at hl hkk
  have cs := split40 (w :: (a ++ [v])) (by simp; omega) k (by simp; omega)
  rw [cut_none (.br w v a x hs hv hsg)] at cs
  replace cs : icall Try.prog cfg k 40 [.d (.list ((w :: (a ++ [v])).map W.cells))] [] = some (.ret (.d (.int .i64 (-1))), []) := cs
  have c1 := is37 w 45 k (by omega)
  have c2 := is37 w 33 k (by omega)
  have c3 := is37 w 40 k (by omega)
  rw [hs] at c1 c2 c3
  have ct := ih k (by omega)
  have hg := wfirst (w := w) (r := a ++ [v])
  have hll : ((w :: (a ++ [v])).map W.cells).length = a.length + 2 := by rw [List.length_map]; simp
  have hta : ((w :: (a ++ [v])).take (a.length + 1)).drop 1 = a := by simp
  have hz : IntKind.i64.wrap ((((w :: (a ++ [v])).map W.cells).length : Int) - 1) = ((a.length + 1 : Nat) : Int) := by rw [hll, Go.Rx.wrap_i64 (by omega) (by omega)]; omega
  have hbb : bnds (w :: (a ++ [v])).length (some 1) (some (IntKind.i64.wrap ((((w :: (a ++ [v])).map W.cells).length : Int) - 1))) none = some (1, a.length + 1) := bnds_in rfl hz (by omega) (by simp)
  obtain ⟨xk, xn, xs, xl⟩ := x
  generalize hL : (w :: (a ++ [v])).map W.cells = L at *
  have aop_s := fun {P : Program} {dst : Nat} {ρ : Operand → AV} {H : Hp} {t e : TypeId} {x : Operand} {lo hi : Option Operand} (hx : ρ x = .d (.list L)) (ht : P.underlying t = some (.slice e)) (hs : sizeT P e = some 4) (hl : intV (lo.map ρ) = some (some 1)) (hh : intV (hi.map ρ) = some (some (IntKind.i64.wrap ((L.length : Int) - 1)))) => aop_wpart (dst := dst) (H := H) (by rw [hL]; exact hx) ht hs hl hh hbb hta
  rw [icall_body rfl Try.func25]
  obtain ⟨lp, hlp⟩ : ∃ lp, lp = lpOf Try.prog cfg (icall Try.prog cfg k) Try.f25.ntmps 25 k (([] : Hp).map (·.1)) := ⟨_, rfl⟩
  rw [← hlp]
  conv => lhs; whnf
  refine nextK_of cs ?_
  conv => lhs; whnf
  refine nextK_of (aop_ix rfl rfl rfl rfl (ixL_at' (n := 0) rfl hg rfl)) ?_
  conv => lhs; whnf
  refine nextK_of c1 ?_
  conv => lhs; whnf
  refine nextK_of (aop_ix rfl rfl rfl rfl (ixL_at' (n := 0) rfl hg rfl)) ?_
  conv => lhs; whnf
  refine nextK_of c2 ?_
  conv => lhs; whnf
  refine nextK_of (aop_ix rfl rfl rfl rfl (ixL_at' (n := 0) rfl hg rfl)) ?_
  conv => lhs; whnf
  refine nextK_of c3 ?_
  conv => lhs; whnf
  refine nextK_of (aop_s rfl rfl rfl rfl rfl) ?_
  conv => lhs; whnf
  refine nextK_of ct ?_
  conv => lhs; whnf
  refine Eq.trans (b := some (Res.ret (AV.agg [AV.d (D.int IntKind.i64 (T.kind (T.mk xk xn xs xl))), AV.d (D.int IntKind.i64 (T.n (T.mk xk xn xs xl))), AV.d (D.str (T.name (T.mk xk xn xs xl))), AV.d (D.list (cellsL (T.kids (T.mk xk xn xs xl))))]), [])) (by kernel_rfl) ?_
  rfl
theorem tr_bin (lo : Int) (a b : List W) (w : W) (x y : T) (ha : Seg lo a x) (hb : Seg (lo + 1) b y) (hk0 : kindW w ≠ 0) (hkl : levelK (kindW w) = lo) (iha : (∀ k, 2 * a.length + 401 < k → icall Try.prog cfg k 25 [.d (.list (a.map W.cells))] [] = some (.ret x.av, []))) (ihb : (∀ k, 2 * b.length + 401 < k → icall Try.prog cfg k 25 [.d (.list (b.map W.cells))] [] = some (.ret y.av, []))) (hl : (a ++ w :: b).length ≤ 50000) (k : Nat) (hkk : 2 * (a ++ w :: b).length + 401 < k) : icall Try.prog cfg k 25 [.d (.list ((a ++ w :: b).map W.cells))] [] = some (.ret (T.mk (kindW w) 0 [] [x, y]).av, []) := by
  obtain ⟨k, rfl⟩ : ∃ j, k = j + 1 := ⟨k - 1, by omega⟩
  simp only [List.length_cons, List.length_append] at hl hkk
  have cs := split40 (a ++ w :: b) (by simp; omega) k (by simp; omega)
  rw [cut_bin ha hb hk0 hkl] at cs
  replace cs : icall Try.prog cfg k 40 [.d (.list ((a ++ w :: b).map W.cells))] [] = some (.ret (.d (.int .i64 (a.length : Int))), []) := cs
  have ca := iha k (by omega)
  have cb := ihb k (by omega)
  have c39 := kind39 w k (by omega)
  have hpos : (a.length : Int) ≥ 0 := by omega
  have hll : ((a ++ w :: b).map W.cells).length = a.length + b.length + 1 := by rw [List.length_map]; simp; omega
  have hz : IntKind.i64.wrap ((a.length : Int) + 1) = ((a.length + 1 : Nat) : Int) := by rw [Go.Rx.wrap_i64 (by omega) (by omega)]; omega
  have ht1 : ((a ++ w :: b).take a.length).drop 0 = a := by simp
  have ht2 : ((a ++ w :: b).take (a.length + b.length + 1)).drop (a.length + 1) = b := by
    rw [List.take_of_length_le (by simp; omega)]
    rw [show a ++ w :: b = (a ++ [w]) ++ b by simp, List.drop_append_of_le_length (by simp), List.drop_eq_nil_of_le (by simp)]; rfl
  have hb1 : bnds (a ++ w :: b).length none (some (a.length : Int)) none = some (0, a.length) := bnds_to rfl (by simp)
  have hb2 : bnds (a ++ w :: b).length (some (IntKind.i64.wrap ((a.length : Int) + 1))) none none = some (a.length + 1, a.length + b.length + 1) := by
    rw [bnds_from hz (by simp)]; congr 2; simp; omega
  have hg : ((a ++ w :: b).map W.cells)[a.length]? = some [.int .i64 w.k, .str w.t, .int .i64 w.n, .int .i64 w.at'] := word_get (by simp)
  obtain ⟨xk, xn, xs, xl⟩ := x
  obtain ⟨yk, yn, ys, yl⟩ := y
  generalize kindW w = kw at *
  generalize hL : (a ++ w :: b).map W.cells = L at *
  have aop_s1 := fun {P : Program} {dst : Nat} {ρ : Operand → AV} {H : Hp} {t e : TypeId} {x : Operand} {lo hi : Option Operand} (hx : ρ x = .d (.list L)) (ht : P.underlying t = some (.slice e)) (hs : sizeT P e = some 4) (hl : intV (lo.map ρ) = some none) (hh : intV (hi.map ρ) = some (some (a.length : Int))) => aop_wpart (dst := dst) (H := H) (by rw [hL]; exact hx) ht hs hl hh hb1 ht1
  have aop_s2 := fun {P : Program} {dst : Nat} {ρ : Operand → AV} {H : Hp} {t e : TypeId} {x : Operand} {lo hi : Option Operand} (hx : ρ x = .d (.list L)) (ht : P.underlying t = some (.slice e)) (hs : sizeT P e = some 4) (hl : intV (lo.map ρ) = some (some (IntKind.i64.wrap ((a.length : Int) + 1)))) (hh : intV (hi.map ρ) = some none) => aop_wpart (dst := dst) (H := H) (by rw [hL]; exact hx) ht hs hl hh hb2 ht2
  generalize a.map W.cells = La at *
  generalize b.map W.cells = Lb at *
  rw [icall_body rfl Try.func25]
  obtain ⟨lp, hlp⟩ : ∃ lp, lp = lpOf Try.prog cfg (icall Try.prog cfg k) Try.f25.ntmps 25 k (([] : Hp).map (·.1)) := ⟨_, rfl⟩
  rw [← hlp]
  conv => lhs; whnf
  refine nextK_of cs ?_
  conv => lhs; whnf
  refine nextK_of (aop_s1 rfl rfl rfl rfl rfl) ?_
  conv => lhs; whnf
  refine nextK_of ca ?_
  conv => lhs; whnf
  refine nextK_of (aop_s2 rfl rfl rfl rfl rfl) ?_
  conv => lhs; whnf
  refine nextK_of cb ?_
  conv => lhs; whnf
  refine iteO_t (by kernel_rfl) ?_
  conv => lhs; whnf
  refine nextK_of (aop_ix rfl rfl rfl rfl (ixL_at' (n := a.length) rfl hg rfl)) ?_
  conv => lhs; whnf
  refine nextK_of c39 ?_
  conv => lhs; whnf
  refine iteO_t (by kernel_rfl) ?_
  conv => lhs; whnf
  refine Eq.trans (b := some (Res.ret (AV.agg [AV.d (D.int IntKind.i64 kw), AV.d (D.int IntKind.i64 (0 : Int)), AV.d (D.str []), AV.d (D.list [[D.int IntKind.i64 (T.kind (T.mk xk xn xs xl)), D.int IntKind.i64 (T.n (T.mk xk xn xs xl)), D.str (T.name (T.mk xk xn xs xl)), D.list (cellsL (T.kids (T.mk xk xn xs xl)))], [D.int IntKind.i64 (T.kind (T.mk yk yn ys yl)), D.int IntKind.i64 (T.n (T.mk yk yn ys yl)), D.str (T.name (T.mk yk yn ys yl)), D.list (cellsL (T.kids (T.mk yk yn ys yl)))]])]), [])) (by kernel_rfl) ?_
  rfl
theorem tree25 {lo : Int} {a : List W} {x : T} (h : Seg lo a x) : a.length ≤ 50000 → ∀ k, 2 * a.length + 401 < k → icall Try.prog cfg k 25 [.d (.list (a.map W.cells))] [] = some (.ret x.av, []) := by
  induction h with
  | weak lo a x _ ih => exact ih
  | word w hk => exact fun _ k hk' => tr_word w hk k (by simp at hk'; omega)
  | un w a x hs hsg ih => exact fun hl k hk' => tr_un w a x hs hsg (ih (by simp at hl; omega)) hl k hk'
  | br w v a x hs hv hsg ih => exact fun hl k hk' => tr_br w v a x hs hv hsg (ih (by simp at hl; omega)) hl k hk'
  | bin lo a b w x y ha hb hk0 hkl iha ihb => exact fun hl k hk' => tr_bin lo a b w x y ha hb hk0 hkl (iha (by simp at hl; omega)) (ihb (by simp at hl; omega)) hl k hk'
end Go.Rx07
