/- A part of the proof of the law: what functions of the program come to, walked by Rx, or plain facts on it. -/
import Derived.Test.YtbeppoonnbfdeaaRScan2
open Go Go.Rx Go.Proofs Go.Rx07 Go.RxTree
set_option maxRecDepth 1000000
set_option maxHeartbeats 4000000
set_option linter.unusedVariables false
set_option linter.unusedSimpArgs false
namespace Go.Rx07
theorem c_end (j : Nat) (hj : 100 < j) (l : List W) (b d z : Int) (i : Nat) (hz : z = (i : Int)) (hl1 : l.length ≤ 100000) (hi : l.length ≤ i) {lp : LP} (hlp : lp = lpOf Try.prog cfg (icall Try.prog cfg j) Try.f40.ntmps 40 j (([] : Hp).map (·.1))) (lf : Nat) (st : St) (hp : prune [] [0, 3, 4, 5] st = some ⟨[(0, .d (.list (l.map W.cells))), (3, .d (.int .i64 b)), (4, .d (.int .i64 d)), (5, .d (.int .i64 z))], []⟩) : loopK Try.prog cfg (icall Try.prog cfg j) lp Try.f40.ntmps 40 [] (bodyAt Try.f40 4) (lf + 1) st (exitP [] (some [3])) = some (.exit 0, ⟨[(3, .d (.int .i64 b))], []⟩) := by
  have hll : (l.map W.cells).length = l.length := List.length_map ..
  have hend : ¬ z < ((l.map W.cells).length : Int) := by omega
  refine loop_step hp ?_
  conv => lhs; whnf
  refine iteK_dec_f hend ?_
  conv => lhs; whnf
  refine Eq.trans (b := some (Fx.exit (0 : Nat), St.mk [((3 : Nat), AV.d (D.int IntKind.i64 b))] [])) (by kernel_rfl) ?_
  rfl
theorem c_open (j : Nat) (hj : 100 < j) (l : List W) (b d z : Int) (i : Nat) (hz : z = (i : Int)) (hl1 : l.length ≤ 100000) (w : W) (hw : l[i]? = some w) (hs : w.sg = [40]) {lp : LP} (hlp : lp = lpOf Try.prog cfg (icall Try.prog cfg j) Try.f40.ntmps 40 j (([] : Hp).map (·.1))) (lf : Nat) (st : St) (hp : prune [] [0, 3, 4, 5] st = some ⟨[(0, .d (.list (l.map W.cells))), (3, .d (.int .i64 b)), (4, .d (.int .i64 d)), (5, .d (.int .i64 z))], []⟩) (r : Option (Fx × St))
    (hih : ∀ st', prune [] [0, 3, 4, 5] st' = some ⟨[(0, .d (.list (l.map W.cells))), (3, .d (.int .i64 b)), (4, .d (.int .i64 (IntKind.i64.wrap (d + 1)))), (5, .d (.int .i64 (IntKind.i64.wrap (z + 1))))], []⟩ → loopK Try.prog cfg (icall Try.prog cfg j) lp Try.f40.ntmps 40 [] (bodyAt Try.f40 4) lf st' (exitP [] (some [3])) = r) : loopK Try.prog cfg (icall Try.prog cfg j) lp Try.f40.ntmps 40 [] (bodyAt Try.f40 4) (lf + 1) st (exitP [] (some [3])) = r := by
  have hll : (l.map W.cells).length = l.length := List.length_map ..
  have hil := (List.getElem?_eq_some_iff.1 hw).1
  have hend : z < ((l.map W.cells).length : Int) := by omega
  have co := is37 w 40 j (by omega)
  have cc := is37 w 41 j (by omega)
  have c39 := kind39 w j (by omega)
  rw [hs] at co cc
  rw [show kindW w = 0 by rw [kindW_sg hs]; decide] at c39
  refine loop_step hp ?_
  conv => lhs; whnf
  refine iteK_dec_t hend ?_
  conv => lhs; whnf
  refine nextK_of (aop_ix rfl rfl rfl rfl (ixL_at' (n := i) hz (word_get hw) rfl)) ?_
  conv => lhs; whnf
  refine nextK_of co ?_
  conv => lhs; whnf
  refine nextK_of (aop_ix rfl rfl rfl rfl (ixL_at' (n := i) hz (word_get hw) rfl)) ?_
  conv => lhs; whnf
  refine nextK_of cc ?_
  conv => lhs; whnf
  refine iteK_dec (fun h1 => ?_) (fun h1 => ?_)
  · rw [dec_t h1]
    conv => lhs; whnf
    refine Eq.trans (hih _ rfl) ?_
    rfl
  · rw [dec_f h1]
    conv => lhs; whnf
    refine iteK_beq (fun h2 => ?_) (fun h2 => ?_)
    · obtain rfl : z = (0 : Int) := h2
      conv => lhs; whnf
      refine Eq.trans (hih _ rfl) ?_
      rfl
    · rw [beq_f h2]
      conv => lhs; whnf
      refine nextK_of (aop_ix rfl rfl rfl rfl (ixL_at' (n := i) hz (word_get hw) rfl)) ?_
      conv => lhs; whnf
      refine nextK_of c39 ?_
      conv => lhs; whnf
      refine Eq.trans (hih _ rfl) ?_
      rfl
theorem c_close (j : Nat) (hj : 100 < j) (l : List W) (b d z : Int) (i : Nat) (hz : z = (i : Int)) (hl1 : l.length ≤ 100000) (w : W) (hw : l[i]? = some w) (hs : w.sg = [41]) {lp : LP} (hlp : lp = lpOf Try.prog cfg (icall Try.prog cfg j) Try.f40.ntmps 40 j (([] : Hp).map (·.1))) (lf : Nat) (st : St) (hp : prune [] [0, 3, 4, 5] st = some ⟨[(0, .d (.list (l.map W.cells))), (3, .d (.int .i64 b)), (4, .d (.int .i64 d)), (5, .d (.int .i64 z))], []⟩) (r : Option (Fx × St))
    (hih : ∀ st', prune [] [0, 3, 4, 5] st' = some ⟨[(0, .d (.list (l.map W.cells))), (3, .d (.int .i64 b)), (4, .d (.int .i64 (IntKind.i64.wrap (d - 1)))), (5, .d (.int .i64 (IntKind.i64.wrap (z + 1))))], []⟩ → loopK Try.prog cfg (icall Try.prog cfg j) lp Try.f40.ntmps 40 [] (bodyAt Try.f40 4) lf st' (exitP [] (some [3])) = r) : loopK Try.prog cfg (icall Try.prog cfg j) lp Try.f40.ntmps 40 [] (bodyAt Try.f40 4) (lf + 1) st (exitP [] (some [3])) = r := by
  have hll : (l.map W.cells).length = l.length := List.length_map ..
  have hil := (List.getElem?_eq_some_iff.1 hw).1
  have hend : z < ((l.map W.cells).length : Int) := by omega
  have co := is37 w 40 j (by omega)
  have cc := is37 w 41 j (by omega)
  have c39 := kind39 w j (by omega)
  rw [hs] at co cc
  rw [show kindW w = 0 by rw [kindW_sg hs]; decide] at c39
  refine loop_step hp ?_
  conv => lhs; whnf
  refine iteK_dec_t hend ?_
  conv => lhs; whnf
  refine nextK_of (aop_ix rfl rfl rfl rfl (ixL_at' (n := i) hz (word_get hw) rfl)) ?_
  conv => lhs; whnf
  refine nextK_of co ?_
  conv => lhs; whnf
  refine nextK_of (aop_ix rfl rfl rfl rfl (ixL_at' (n := i) hz (word_get hw) rfl)) ?_
  conv => lhs; whnf
  refine nextK_of cc ?_
  conv => lhs; whnf
  refine iteK_dec (fun h1 => ?_) (fun h1 => ?_)
  · rw [dec_t h1]
    conv => lhs; whnf
    refine Eq.trans (hih _ rfl) ?_
    rfl
  · rw [dec_f h1]
    conv => lhs; whnf
    refine iteK_beq (fun h2 => ?_) (fun h2 => ?_)
    · obtain rfl : z = (0 : Int) := h2
      conv => lhs; whnf
      refine Eq.trans (hih _ rfl) ?_
      rfl
    · rw [beq_f h2]
      conv => lhs; whnf
      refine nextK_of (aop_ix rfl rfl rfl rfl (ixL_at' (n := i) hz (word_get hw) rfl)) ?_
      conv => lhs; whnf
      refine nextK_of c39 ?_
      conv => lhs; whnf
      refine Eq.trans (hih _ rfl) ?_
      rfl
theorem c_deep (j : Nat) (hj : 100 < j) (l : List W) (b d z : Int) (i : Nat) (hz : z = (i : Int)) (hl1 : l.length ≤ 100000) (w : W) (hw : l[i]? = some w) (n1 : w.sg ≠ [40]) (n2 : w.sg ≠ [41]) (hd : d > 0) {lp : LP} (hlp : lp = lpOf Try.prog cfg (icall Try.prog cfg j) Try.f40.ntmps 40 j (([] : Hp).map (·.1))) (lf : Nat) (st : St) (hp : prune [] [0, 3, 4, 5] st = some ⟨[(0, .d (.list (l.map W.cells))), (3, .d (.int .i64 b)), (4, .d (.int .i64 d)), (5, .d (.int .i64 z))], []⟩) (r : Option (Fx × St))
    (hih : ∀ st', prune [] [0, 3, 4, 5] st' = some ⟨[(0, .d (.list (l.map W.cells))), (3, .d (.int .i64 b)), (4, .d (.int .i64 d)), (5, .d (.int .i64 (IntKind.i64.wrap (z + 1))))], []⟩ → loopK Try.prog cfg (icall Try.prog cfg j) lp Try.f40.ntmps 40 [] (bodyAt Try.f40 4) lf st' (exitP [] (some [3])) = r) : loopK Try.prog cfg (icall Try.prog cfg j) lp Try.f40.ntmps 40 [] (bodyAt Try.f40 4) (lf + 1) st (exitP [] (some [3])) = r := by
  have hll : (l.map W.cells).length = l.length := List.length_map ..
  have hil := (List.getElem?_eq_some_iff.1 hw).1
  have hend : z < ((l.map W.cells).length : Int) := by omega
  have co := is37 w 40 j (by omega)
  have cc := is37 w 41 j (by omega)
  have c39 := kind39 w j (by omega)
  rw [beq_f n1] at co
  rw [beq_f n2] at cc
  refine loop_step hp ?_
  conv => lhs; whnf
  refine iteK_dec_t hend ?_
  conv => lhs; whnf
  refine nextK_of (aop_ix rfl rfl rfl rfl (ixL_at' (n := i) hz (word_get hw) rfl)) ?_
  conv => lhs; whnf
  refine nextK_of co ?_
  conv => lhs; whnf
  refine nextK_of (aop_ix rfl rfl rfl rfl (ixL_at' (n := i) hz (word_get hw) rfl)) ?_
  conv => lhs; whnf
  refine nextK_of cc ?_
  conv => lhs; whnf
  refine iteK_dec_t hd ?_
  conv => lhs; whnf
  refine iteK_dec_t hd ?_
  conv => lhs; whnf
  refine iteK_dec_t hd ?_
  conv => lhs; whnf
  refine Eq.trans (hih _ rfl) ?_
  rfl
theorem c_zero (j : Nat) (hj : 100 < j) (l : List W) (b d z : Int) (i : Nat) (hz : z = (i : Int)) (hl1 : l.length ≤ 100000) (w : W) (hw : l[i]? = some w) (n1 : w.sg ≠ [40]) (n2 : w.sg ≠ [41]) (hk : kindW w = 0) {lp : LP} (hlp : lp = lpOf Try.prog cfg (icall Try.prog cfg j) Try.f40.ntmps 40 j (([] : Hp).map (·.1))) (lf : Nat) (st : St) (hp : prune [] [0, 3, 4, 5] st = some ⟨[(0, .d (.list (l.map W.cells))), (3, .d (.int .i64 b)), (4, .d (.int .i64 d)), (5, .d (.int .i64 z))], []⟩) (r : Option (Fx × St))
    (hih : ∀ st', prune [] [0, 3, 4, 5] st' = some ⟨[(0, .d (.list (l.map W.cells))), (3, .d (.int .i64 b)), (4, .d (.int .i64 d)), (5, .d (.int .i64 (IntKind.i64.wrap (z + 1))))], []⟩ → loopK Try.prog cfg (icall Try.prog cfg j) lp Try.f40.ntmps 40 [] (bodyAt Try.f40 4) lf st' (exitP [] (some [3])) = r) : loopK Try.prog cfg (icall Try.prog cfg j) lp Try.f40.ntmps 40 [] (bodyAt Try.f40 4) (lf + 1) st (exitP [] (some [3])) = r := by
  have hll : (l.map W.cells).length = l.length := List.length_map ..
  have hil := (List.getElem?_eq_some_iff.1 hw).1
  have hend : z < ((l.map W.cells).length : Int) := by omega
  have co := is37 w 40 j (by omega)
  have cc := is37 w 41 j (by omega)
  have c39 := kind39 w j (by omega)
  rw [beq_f n1] at co
  rw [beq_f n2] at cc
  rw [hk] at c39
  refine loop_step hp ?_
  conv => lhs; whnf
  refine iteK_dec_t hend ?_
  conv => lhs; whnf
  refine nextK_of (aop_ix rfl rfl rfl rfl (ixL_at' (n := i) hz (word_get hw) rfl)) ?_
  conv => lhs; whnf
  refine nextK_of co ?_
  conv => lhs; whnf
  refine nextK_of (aop_ix rfl rfl rfl rfl (ixL_at' (n := i) hz (word_get hw) rfl)) ?_
  conv => lhs; whnf
  refine nextK_of cc ?_
  conv => lhs; whnf
  refine iteK_dec (fun h1 => ?_) (fun h1 => ?_)
  · rw [dec_t h1]
    conv => lhs; whnf
    refine Eq.trans (hih _ rfl) ?_
    rfl
  · rw [dec_f h1]
    conv => lhs; whnf
    refine iteK_beq (fun h2 => ?_) (fun h2 => ?_)
    · obtain rfl : z = (0 : Int) := h2
      conv => lhs; whnf
      refine Eq.trans (hih _ rfl) ?_
      rfl
    · rw [beq_f h2]
      conv => lhs; whnf
      refine nextK_of (aop_ix rfl rfl rfl rfl (ixL_at' (n := i) hz (word_get hw) rfl)) ?_
      conv => lhs; whnf
      refine nextK_of c39 ?_
      conv => lhs; whnf
      refine Eq.trans (hih _ rfl) ?_
      rfl
theorem c_first (j : Nat) (hj : 100 < j) (l : List W) (b d z : Int) (i : Nat) (hz : z = (i : Int)) (hl1 : l.length ≤ 100000) (w : W) (hw : l[i]? = some w) (n1 : w.sg ≠ [40]) (n2 : w.sg ≠ [41]) (hi0 : i = 0) {lp : LP} (hlp : lp = lpOf Try.prog cfg (icall Try.prog cfg j) Try.f40.ntmps 40 j (([] : Hp).map (·.1))) (lf : Nat) (st : St) (hp : prune [] [0, 3, 4, 5] st = some ⟨[(0, .d (.list (l.map W.cells))), (3, .d (.int .i64 b)), (4, .d (.int .i64 d)), (5, .d (.int .i64 z))], []⟩) (r : Option (Fx × St))
    (hih : ∀ st', prune [] [0, 3, 4, 5] st' = some ⟨[(0, .d (.list (l.map W.cells))), (3, .d (.int .i64 b)), (4, .d (.int .i64 d)), (5, .d (.int .i64 (IntKind.i64.wrap (z + 1))))], []⟩ → loopK Try.prog cfg (icall Try.prog cfg j) lp Try.f40.ntmps 40 [] (bodyAt Try.f40 4) lf st' (exitP [] (some [3])) = r) : loopK Try.prog cfg (icall Try.prog cfg j) lp Try.f40.ntmps 40 [] (bodyAt Try.f40 4) (lf + 1) st (exitP [] (some [3])) = r := by
  have hll : (l.map W.cells).length = l.length := List.length_map ..
  have hil := (List.getElem?_eq_some_iff.1 hw).1
  have hend : z < ((l.map W.cells).length : Int) := by omega
  have co := is37 w 40 j (by omega)
  have cc := is37 w 41 j (by omega)
  have c39 := kind39 w j (by omega)
  rw [beq_f n1] at co
  rw [beq_f n2] at cc
  have hz0 : z = 0 := by omega
  refine loop_step hp ?_
  conv => lhs; whnf
  refine iteK_dec_t hend ?_
  conv => lhs; whnf
  refine nextK_of (aop_ix rfl rfl rfl rfl (ixL_at' (n := i) hz (word_get hw) rfl)) ?_
  conv => lhs; whnf
  refine nextK_of co ?_
  conv => lhs; whnf
  refine nextK_of (aop_ix rfl rfl rfl rfl (ixL_at' (n := i) hz (word_get hw) rfl)) ?_
  conv => lhs; whnf
  refine nextK_of cc ?_
  conv => lhs; whnf
  refine iteK_dec (fun h1 => ?_) (fun h1 => ?_)
  · rw [dec_t h1]
    conv => lhs; whnf
    refine Eq.trans (hih _ rfl) ?_
    rfl
  · rw [dec_f h1]
    conv => lhs; whnf
    refine iteK_beq_t hz0 ?_
    conv => lhs; whnf
    refine iteK_beq_t hz0 ?_
    conv => lhs; whnf
    refine iteK_beq_t hz0 ?_
    conv => lhs; whnf
    refine iteK_beq_t hz0 ?_
    conv => lhs; whnf
    refine iteK_beq_t hz0 ?_
    conv => lhs; whnf
    refine iteK_beq_t hz0 ?_
    conv => lhs; whnf
    refine iteK_beq_t hz0 ?_
    conv => lhs; whnf
    refine Eq.trans (hih _ rfl) ?_
    rfl
theorem c_nop (j : Nat) (hj : 100 < j) (l : List W) (b d z : Int) (i : Nat) (hz : z = (i : Int)) (hl1 : l.length ≤ 100000) (w : W) (hw : l[i]? = some w) (n1 : w.sg ≠ [40]) (n2 : w.sg ≠ [41]) (hd : ¬ d > 0) (hi0 : i ≠ 0) (hk : kindW w ≠ 0) (p : W) (hp0 : l[i - 1]? = some p) (p1 : p.k ≠ 1) (p2 : p.k ≠ 2) (p3 : p.sg ≠ [41]) {lp : LP} (hlp : lp = lpOf Try.prog cfg (icall Try.prog cfg j) Try.f40.ntmps 40 j (([] : Hp).map (·.1))) (lf : Nat) (st : St) (hp : prune [] [0, 3, 4, 5] st = some ⟨[(0, .d (.list (l.map W.cells))), (3, .d (.int .i64 b)), (4, .d (.int .i64 d)), (5, .d (.int .i64 z))], []⟩) (r : Option (Fx × St))
    (hih : ∀ st', prune [] [0, 3, 4, 5] st' = some ⟨[(0, .d (.list (l.map W.cells))), (3, .d (.int .i64 b)), (4, .d (.int .i64 d)), (5, .d (.int .i64 (IntKind.i64.wrap (z + 1))))], []⟩ → loopK Try.prog cfg (icall Try.prog cfg j) lp Try.f40.ntmps 40 [] (bodyAt Try.f40 4) lf st' (exitP [] (some [3])) = r) : loopK Try.prog cfg (icall Try.prog cfg j) lp Try.f40.ntmps 40 [] (bodyAt Try.f40 4) (lf + 1) st (exitP [] (some [3])) = r := by
  have hll : (l.map W.cells).length = l.length := List.length_map ..
  have hil := (List.getElem?_eq_some_iff.1 hw).1
  have hend : z < ((l.map W.cells).length : Int) := by omega
  have co := is37 w 40 j (by omega)
  have cc := is37 w 41 j (by omega)
  have c39 := kind39 w j (by omega)
  rw [beq_f n1] at co
  rw [beq_f n2] at cc
  have hz0 : z ≠ 0 := by omega
  have hz1 : IntKind.i64.wrap (z - 1) = ((i - 1 : Nat) : Int) := by rw [Go.Rx.wrap_i64 (by omega) (by omega)]; omega
  have cp := is37 p 41 j (by omega)
  rw [beq_f p3] at cp
  generalize kindW w = kw at *
  refine loop_step hp ?_
  conv => lhs; whnf
  refine iteK_dec_t hend ?_
  conv => lhs; whnf
  refine nextK_of (aop_ix rfl rfl rfl rfl (ixL_at' (n := i) hz (word_get hw) rfl)) ?_
  conv => lhs; whnf
  refine nextK_of co ?_
  conv => lhs; whnf
  refine nextK_of (aop_ix rfl rfl rfl rfl (ixL_at' (n := i) hz (word_get hw) rfl)) ?_
  conv => lhs; whnf
  refine nextK_of cc ?_
  conv => lhs; whnf
  refine iteK_dec_f hd ?_
  conv => lhs; whnf
  refine iteK_dec_f hd ?_
  conv => lhs; whnf
  refine iteK_dec_f hd ?_
  conv => lhs; whnf
  refine iteK_beq_f hz0 ?_
  conv => lhs; whnf
  refine iteK_beq_f hz0 ?_
  conv => lhs; whnf
  refine iteK_beq_f hz0 ?_
  conv => lhs; whnf
  refine nextK_of (aop_ix rfl rfl rfl rfl (ixL_at' (n := i) hz (word_get hw) rfl)) ?_
  conv => lhs; whnf
  refine iteK_beq_f hz0 ?_
  conv => lhs; whnf
  refine iteK_beq_f hz0 ?_
  conv => lhs; whnf
  refine nextK_of c39 ?_
  conv => lhs; whnf
  refine iteK_beq_f hz0 ?_
  conv => lhs; whnf
  refine iteK_beq_f hz0 ?_
  conv => lhs; whnf
  refine iteK_beq_f hk ?_
  conv => lhs; whnf
  refine nextK_of (aop_ix rfl rfl rfl rfl (ixL_at' (n := i - 1) hz1 (word_get hp0) rfl)) ?_
  conv => lhs; whnf
  refine iteK_bne_t p1 ?_
  conv => lhs; whnf
  refine iteK_bne_t p1 ?_
  conv => lhs; whnf
  refine iteK_bne_t p1 ?_
  conv => lhs; whnf
  refine iteK_bne_t p1 ?_
  conv => lhs; whnf
  refine iteK_bne_t p2 ?_
  conv => lhs; whnf
  refine iteK_bne_t p2 ?_
  conv => lhs; whnf
  refine nextK_of cp ?_
  conv => lhs; whnf
  refine iteK_bne_t p2 ?_
  conv => lhs; whnf
  refine iteK_bne_t p2 ?_
  conv => lhs; whnf
  refine Eq.trans (hih _ rfl) ?_
  rfl
theorem c_new (j : Nat) (hj : 100 < j) (l : List W) (b d z : Int) (i : Nat) (hz : z = (i : Int)) (hl1 : l.length ≤ 100000) (w : W) (hw : l[i]? = some w) (n1 : w.sg ≠ [40]) (n2 : w.sg ≠ [41]) (hd : ¬ d > 0) (hi0 : i ≠ 0) (hk : kindW w ≠ 0) (p : W) (hp0 : l[i - 1]? = some p) (hop : p.k = 1 ∨ p.k = 2 ∨ p.sg = [41]) (hb : b < 0) {lp : LP} (hlp : lp = lpOf Try.prog cfg (icall Try.prog cfg j) Try.f40.ntmps 40 j (([] : Hp).map (·.1))) (lf : Nat) (st : St) (hp : prune [] [0, 3, 4, 5] st = some ⟨[(0, .d (.list (l.map W.cells))), (3, .d (.int .i64 b)), (4, .d (.int .i64 d)), (5, .d (.int .i64 z))], []⟩) (r : Option (Fx × St))
    (hih : ∀ st', prune [] [0, 3, 4, 5] st' = some ⟨[(0, .d (.list (l.map W.cells))), (3, .d (.int .i64 z)), (4, .d (.int .i64 d)), (5, .d (.int .i64 (IntKind.i64.wrap (z + 1))))], []⟩ → loopK Try.prog cfg (icall Try.prog cfg j) lp Try.f40.ntmps 40 [] (bodyAt Try.f40 4) lf st' (exitP [] (some [3])) = r) : loopK Try.prog cfg (icall Try.prog cfg j) lp Try.f40.ntmps 40 [] (bodyAt Try.f40 4) (lf + 1) st (exitP [] (some [3])) = r := by
  have hll : (l.map W.cells).length = l.length := List.length_map ..
  have hil := (List.getElem?_eq_some_iff.1 hw).1
  have hend : z < ((l.map W.cells).length : Int) := by omega
  have co := is37 w 40 j (by omega)
  have cc := is37 w 41 j (by omega)
  have c39 := kind39 w j (by omega)
  rw [beq_f n1] at co
  rw [beq_f n2] at cc
  have hz0 : z ≠ 0 := by omega
  have hz1 : IntKind.i64.wrap (z - 1) = ((i - 1 : Nat) : Int) := by rw [Go.Rx.wrap_i64 (by omega) (by omega)]; omega
  have cp := is37 p 41 j (by omega)
  generalize kindW w = kw at *
  refine loop_step hp ?_
  by_cases p1 : p.k = 1
  · conv => lhs; whnf
    refine iteK_dec_t hend ?_
    conv => lhs; whnf
    refine nextK_of (aop_ix rfl rfl rfl rfl (ixL_at' (n := i) hz (word_get hw) rfl)) ?_
    conv => lhs; whnf
    refine nextK_of co ?_
    conv => lhs; whnf
    refine nextK_of (aop_ix rfl rfl rfl rfl (ixL_at' (n := i) hz (word_get hw) rfl)) ?_
    conv => lhs; whnf
    refine nextK_of cc ?_
    conv => lhs; whnf
    refine iteK_dec_f hd ?_
    conv => lhs; whnf
    refine iteK_dec_f hd ?_
    conv => lhs; whnf
    refine iteK_dec_f hd ?_
    conv => lhs; whnf
    refine iteK_beq_f hz0 ?_
    conv => lhs; whnf
    refine iteK_beq_f hz0 ?_
    conv => lhs; whnf
    refine iteK_beq_f hz0 ?_
    conv => lhs; whnf
    refine nextK_of (aop_ix rfl rfl rfl rfl (ixL_at' (n := i) hz (word_get hw) rfl)) ?_
    conv => lhs; whnf
    refine iteK_beq_f hz0 ?_
    conv => lhs; whnf
    refine iteK_beq_f hz0 ?_
    conv => lhs; whnf
    refine nextK_of c39 ?_
    conv => lhs; whnf
    refine iteK_beq_f hz0 ?_
    conv => lhs; whnf
    refine iteK_beq_f hz0 ?_
    conv => lhs; whnf
    refine iteK_beq_f hk ?_
    conv => lhs; whnf
    refine nextK_of (aop_ix rfl rfl rfl rfl (ixL_at' (n := i - 1) hz1 (word_get hp0) rfl)) ?_
    conv => lhs; whnf
    refine iteK_bne_f p1 ?_
    conv => lhs; whnf
    refine iteK_bne_f p1 ?_
    conv => lhs; whnf
    refine iteK_bne_f p1 ?_
    conv => lhs; whnf
    refine iteK_bne_f p1 ?_
    conv => lhs; whnf
    refine iteO_t (by kernel_rfl) ?_
    conv => lhs; whnf
    refine iteK_dec_t hb ?_
    conv => lhs; whnf
    refine iteK_dec_t hb ?_
    conv => lhs; whnf
    refine iteK_dec_t hb ?_
    conv => lhs; whnf
    refine iteK_dec_t hb ?_
    conv => lhs; whnf
    refine iteK_dec_t hb ?_
    conv => lhs; whnf
    refine iteK_dec_t hb ?_
    conv => lhs; whnf
    refine iteK_dec_t hb ?_
    conv => lhs; whnf
    refine iteK_dec_t hb ?_
    conv => lhs; whnf
    refine iteK_dec_t hb ?_
    conv => lhs; whnf
    refine iteK_dec_t hb ?_
    conv => lhs; whnf
    refine iteK_dec_t hb ?_
    conv => lhs; whnf
    refine iteK_dec_t hb ?_
    conv => lhs; whnf
    refine iteK_dec_t hb ?_
    conv => lhs; whnf
    refine iteK_dec_t hb ?_
    conv => lhs; whnf
    refine iteO_t (by kernel_rfl) ?_
    conv => lhs; whnf
    refine Eq.trans (hih _ rfl) ?_
    rfl
  · by_cases p2 : p.k = 2
    · conv => lhs; whnf
      refine iteK_dec_t hend ?_
      conv => lhs; whnf
      refine nextK_of (aop_ix rfl rfl rfl rfl (ixL_at' (n := i) hz (word_get hw) rfl)) ?_
      conv => lhs; whnf
      refine nextK_of co ?_
      conv => lhs; whnf
      refine nextK_of (aop_ix rfl rfl rfl rfl (ixL_at' (n := i) hz (word_get hw) rfl)) ?_
      conv => lhs; whnf
      refine nextK_of cc ?_
      conv => lhs; whnf
      refine iteK_dec_f hd ?_
      conv => lhs; whnf
      refine iteK_dec_f hd ?_
      conv => lhs; whnf
      refine iteK_dec_f hd ?_
      conv => lhs; whnf
      refine iteK_beq_f hz0 ?_
      conv => lhs; whnf
      refine iteK_beq_f hz0 ?_
      conv => lhs; whnf
      refine iteK_beq_f hz0 ?_
      conv => lhs; whnf
      refine nextK_of (aop_ix rfl rfl rfl rfl (ixL_at' (n := i) hz (word_get hw) rfl)) ?_
      conv => lhs; whnf
      refine iteK_beq_f hz0 ?_
      conv => lhs; whnf
      refine iteK_beq_f hz0 ?_
      conv => lhs; whnf
      refine nextK_of c39 ?_
      conv => lhs; whnf
      refine iteK_beq_f hz0 ?_
      conv => lhs; whnf
      refine iteK_beq_f hz0 ?_
      conv => lhs; whnf
      refine iteK_beq_f hk ?_
      conv => lhs; whnf
      refine nextK_of (aop_ix rfl rfl rfl rfl (ixL_at' (n := i - 1) hz1 (word_get hp0) rfl)) ?_
      conv => lhs; whnf
      refine iteK_bne_t p1 ?_
      conv => lhs; whnf
      refine iteK_bne_t p1 ?_
      conv => lhs; whnf
      refine iteK_bne_t p1 ?_
      conv => lhs; whnf
      refine iteK_bne_t p1 ?_
      conv => lhs; whnf
      refine iteK_bne_f p2 ?_
      conv => lhs; whnf
      refine iteK_bne_f p2 ?_
      conv => lhs; whnf
      refine iteK_bne_f p2 ?_
      conv => lhs; whnf
      refine iteK_bne_f p2 ?_
      conv => lhs; whnf
      refine iteO_t (by kernel_rfl) ?_
      conv => lhs; whnf
      refine iteK_dec_t hb ?_
      conv => lhs; whnf
      refine iteK_dec_t hb ?_
      conv => lhs; whnf
      refine iteK_dec_t hb ?_
      conv => lhs; whnf
      refine iteK_dec_t hb ?_
      conv => lhs; whnf
      refine iteK_dec_t hb ?_
      conv => lhs; whnf
      refine iteK_dec_t hb ?_
      conv => lhs; whnf
      refine iteK_dec_t hb ?_
      conv => lhs; whnf
      refine iteK_dec_t hb ?_
      conv => lhs; whnf
      refine iteK_dec_t hb ?_
      conv => lhs; whnf
      refine iteK_dec_t hb ?_
      conv => lhs; whnf
      refine iteK_dec_t hb ?_
      conv => lhs; whnf
      refine iteK_dec_t hb ?_
      conv => lhs; whnf
      refine iteK_dec_t hb ?_
      conv => lhs; whnf
      refine iteK_dec_t hb ?_
      conv => lhs; whnf
      refine iteO_t (by kernel_rfl) ?_
      conv => lhs; whnf
      refine Eq.trans (hih _ rfl) ?_
      rfl
    · rw [show (p.sg == [41]) = true by rcases hop with h | h | h; exact absurd h p1; exact absurd h p2; rw [h]; rfl] at cp
      conv => lhs; whnf
      refine iteK_dec_t hend ?_
      conv => lhs; whnf
      refine nextK_of (aop_ix rfl rfl rfl rfl (ixL_at' (n := i) hz (word_get hw) rfl)) ?_
      conv => lhs; whnf
      refine nextK_of co ?_
      conv => lhs; whnf
      refine nextK_of (aop_ix rfl rfl rfl rfl (ixL_at' (n := i) hz (word_get hw) rfl)) ?_
      conv => lhs; whnf
      refine nextK_of cc ?_
      conv => lhs; whnf
      refine iteK_dec_f hd ?_
      conv => lhs; whnf
      refine iteK_dec_f hd ?_
      conv => lhs; whnf
      refine iteK_dec_f hd ?_
      conv => lhs; whnf
      refine iteK_beq_f hz0 ?_
      conv => lhs; whnf
      refine iteK_beq_f hz0 ?_
      conv => lhs; whnf
      refine iteK_beq_f hz0 ?_
      conv => lhs; whnf
      refine nextK_of (aop_ix rfl rfl rfl rfl (ixL_at' (n := i) hz (word_get hw) rfl)) ?_
      conv => lhs; whnf
      refine iteK_beq_f hz0 ?_
      conv => lhs; whnf
      refine iteK_beq_f hz0 ?_
      conv => lhs; whnf
      refine nextK_of c39 ?_
      conv => lhs; whnf
      refine iteK_beq_f hz0 ?_
      conv => lhs; whnf
      refine iteK_beq_f hz0 ?_
      conv => lhs; whnf
      refine iteK_beq_f hk ?_
      conv => lhs; whnf
      refine nextK_of (aop_ix rfl rfl rfl rfl (ixL_at' (n := i - 1) hz1 (word_get hp0) rfl)) ?_
      conv => lhs; whnf
      refine iteK_bne_t p1 ?_
      conv => lhs; whnf
      refine iteK_bne_t p1 ?_
      conv => lhs; whnf
      refine iteK_bne_t p1 ?_
      conv => lhs; whnf
      refine iteK_bne_t p1 ?_
      conv => lhs; whnf
      refine iteK_bne_t p2 ?_
      conv => lhs; whnf
      refine iteK_bne_t p2 ?_
      conv => lhs; whnf
      refine nextK_of cp ?_
      conv => lhs; whnf
      refine iteK_bne_t p2 ?_
      conv => lhs; whnf
      refine iteK_bne_t p2 ?_
      conv => lhs; whnf
      refine iteO_t (by kernel_rfl) ?_
      conv => lhs; whnf
      refine iteK_dec_t hb ?_
      conv => lhs; whnf
      refine iteK_dec_t hb ?_
      conv => lhs; whnf
      refine iteK_dec_t hb ?_
      conv => lhs; whnf
      refine iteK_dec_t hb ?_
      conv => lhs; whnf
      refine iteK_dec_t hb ?_
      conv => lhs; whnf
      refine iteK_dec_t hb ?_
      conv => lhs; whnf
      refine iteK_dec_t hb ?_
      conv => lhs; whnf
      refine iteK_dec_t hb ?_
      conv => lhs; whnf
      refine iteK_dec_t hb ?_
      conv => lhs; whnf
      refine iteK_dec_t hb ?_
      conv => lhs; whnf
      refine iteK_dec_t hb ?_
      conv => lhs; whnf
      refine iteK_dec_t hb ?_
      conv => lhs; whnf
      refine iteK_dec_t hb ?_
      conv => lhs; whnf
      refine iteK_dec_t hb ?_
      conv => lhs; whnf
      refine iteO_t (by kernel_rfl) ?_
      conv => lhs; whnf
      refine Eq.trans (hih _ rfl) ?_
      rfl
theorem c_less (j : Nat) (hj : 100 < j) (l : List W) (b d z : Int) (i : Nat) (hz : z = (i : Int)) (hl1 : l.length ≤ 100000) (w : W) (hw : l[i]? = some w) (n1 : w.sg ≠ [40]) (n2 : w.sg ≠ [41]) (hd : ¬ d > 0) (hi0 : i ≠ 0) (hk : kindW w ≠ 0) (p : W) (hp0 : l[i - 1]? = some p) (hop : p.k = 1 ∨ p.k = 2 ∨ p.sg = [41]) (n : Nat) (hbn : b = (n : Int)) (v : W) (hv : l[n]? = some v) (hle : levelK (kindW w) ≤ levelK (kindW v)) {lp : LP} (hlp : lp = lpOf Try.prog cfg (icall Try.prog cfg j) Try.f40.ntmps 40 j (([] : Hp).map (·.1))) (lf : Nat) (st : St) (hp : prune [] [0, 3, 4, 5] st = some ⟨[(0, .d (.list (l.map W.cells))), (3, .d (.int .i64 b)), (4, .d (.int .i64 d)), (5, .d (.int .i64 z))], []⟩) (r : Option (Fx × St))
    (hih : ∀ st', prune [] [0, 3, 4, 5] st' = some ⟨[(0, .d (.list (l.map W.cells))), (3, .d (.int .i64 z)), (4, .d (.int .i64 d)), (5, .d (.int .i64 (IntKind.i64.wrap (z + 1))))], []⟩ → loopK Try.prog cfg (icall Try.prog cfg j) lp Try.f40.ntmps 40 [] (bodyAt Try.f40 4) lf st' (exitP [] (some [3])) = r) : loopK Try.prog cfg (icall Try.prog cfg j) lp Try.f40.ntmps 40 [] (bodyAt Try.f40 4) (lf + 1) st (exitP [] (some [3])) = r := by
  have hll : (l.map W.cells).length = l.length := List.length_map ..
  have hil := (List.getElem?_eq_some_iff.1 hw).1
  have hend : z < ((l.map W.cells).length : Int) := by omega
  have co := is37 w 40 j (by omega)
  have cc := is37 w 41 j (by omega)
  have c39 := kind39 w j (by omega)
  rw [beq_f n1] at co
  rw [beq_f n2] at cc
  have hz0 : z ≠ 0 := by omega
  have hz1 : IntKind.i64.wrap (z - 1) = ((i - 1 : Nat) : Int) := by rw [Go.Rx.wrap_i64 (by omega) (by omega)]; omega
  have cp := is37 p 41 j (by omega)
  have hb0 : ¬ b < 0 := by omega
  have c39v := kind39 v j (by omega)
  have c38 := level38 (kindW w) j (by omega)
  have c38v := level38 (kindW v) j (by omega)
  generalize kindW w = kw at *
  generalize kindW v = kv at *
  generalize levelK kw = lw at *
  generalize levelK kv = lv at *
  refine loop_step hp ?_
  by_cases p1 : p.k = 1
  · conv => lhs; whnf
    refine iteK_dec_t hend ?_
    conv => lhs; whnf
    refine nextK_of (aop_ix rfl rfl rfl rfl (ixL_at' (n := i) hz (word_get hw) rfl)) ?_
    conv => lhs; whnf
    refine nextK_of co ?_
    conv => lhs; whnf
    refine nextK_of (aop_ix rfl rfl rfl rfl (ixL_at' (n := i) hz (word_get hw) rfl)) ?_
    conv => lhs; whnf
    refine nextK_of cc ?_
    conv => lhs; whnf
    refine iteK_dec_f hd ?_
    conv => lhs; whnf
    refine iteK_dec_f hd ?_
    conv => lhs; whnf
    refine iteK_dec_f hd ?_
    conv => lhs; whnf
    refine iteK_beq_f hz0 ?_
    conv => lhs; whnf
    refine iteK_beq_f hz0 ?_
    conv => lhs; whnf
    refine iteK_beq_f hz0 ?_
    conv => lhs; whnf
    refine nextK_of (aop_ix rfl rfl rfl rfl (ixL_at' (n := i) hz (word_get hw) rfl)) ?_
    conv => lhs; whnf
    refine iteK_beq_f hz0 ?_
    conv => lhs; whnf
    refine iteK_beq_f hz0 ?_
    conv => lhs; whnf
    refine nextK_of c39 ?_
    conv => lhs; whnf
    refine iteK_beq_f hz0 ?_
    conv => lhs; whnf
    refine iteK_beq_f hz0 ?_
    conv => lhs; whnf
    refine iteK_beq_f hk ?_
    conv => lhs; whnf
    refine nextK_of (aop_ix rfl rfl rfl rfl (ixL_at' (n := i - 1) hz1 (word_get hp0) rfl)) ?_
    conv => lhs; whnf
    refine iteK_bne_f p1 ?_
    conv => lhs; whnf
    refine iteK_bne_f p1 ?_
    conv => lhs; whnf
    refine iteK_bne_f p1 ?_
    conv => lhs; whnf
    refine iteK_bne_f p1 ?_
    conv => lhs; whnf
    refine iteO_t (by kernel_rfl) ?_
    conv => lhs; whnf
    refine iteK_dec_f hb0 ?_
    conv => lhs; whnf
    refine iteK_dec_f hb0 ?_
    conv => lhs; whnf
    refine iteK_dec_f hb0 ?_
    conv => lhs; whnf
    refine nextK_of (aop_ix rfl rfl rfl rfl (ixL_at' (n := i) hz (word_get hw) rfl)) ?_
    conv => lhs; whnf
    refine iteK_dec_f hb0 ?_
    conv => lhs; whnf
    refine iteK_dec_f hb0 ?_
    conv => lhs; whnf
    refine nextK_of c39 ?_
    conv => lhs; whnf
    refine iteK_dec_f hb0 ?_
    conv => lhs; whnf
    refine nextK_of c38 ?_
    conv => lhs; whnf
    refine iteK_dec_f hb0 ?_
    conv => lhs; whnf
    refine iteK_dec_f hb0 ?_
    conv => lhs; whnf
    refine iteK_dec_f hb0 ?_
    conv => lhs; whnf
    refine nextK_of (aop_ix rfl rfl rfl rfl (ixL_at' (n := n) hbn (word_get hv) rfl)) ?_
    conv => lhs; whnf
    refine iteK_dec_f hb0 ?_
    conv => lhs; whnf
    refine iteK_dec_f hb0 ?_
    conv => lhs; whnf
    refine nextK_of c39v ?_
    conv => lhs; whnf
    refine iteK_dec_f hb0 ?_
    conv => lhs; whnf
    refine nextK_of c38v ?_
    conv => lhs; whnf
    refine iteK_dec_f hb0 ?_
    conv => lhs; whnf
    refine iteK_dec_f hb0 ?_
    conv => lhs; whnf
    refine iteO_t (by kernel_rfl) ?_
    conv => lhs; whnf
    refine iteK_dec_t hle ?_
    conv => lhs; whnf
    refine Eq.trans (hih _ rfl) ?_
    rfl
  · by_cases p2 : p.k = 2
    · conv => lhs; whnf
      refine iteK_dec_t hend ?_
      conv => lhs; whnf
      refine nextK_of (aop_ix rfl rfl rfl rfl (ixL_at' (n := i) hz (word_get hw) rfl)) ?_
      conv => lhs; whnf
      refine nextK_of co ?_
      conv => lhs; whnf
      refine nextK_of (aop_ix rfl rfl rfl rfl (ixL_at' (n := i) hz (word_get hw) rfl)) ?_
      conv => lhs; whnf
      refine nextK_of cc ?_
      conv => lhs; whnf
      refine iteK_dec_f hd ?_
      conv => lhs; whnf
      refine iteK_dec_f hd ?_
      conv => lhs; whnf
      refine iteK_dec_f hd ?_
      conv => lhs; whnf
      refine iteK_beq_f hz0 ?_
      conv => lhs; whnf
      refine iteK_beq_f hz0 ?_
      conv => lhs; whnf
      refine iteK_beq_f hz0 ?_
      conv => lhs; whnf
      refine nextK_of (aop_ix rfl rfl rfl rfl (ixL_at' (n := i) hz (word_get hw) rfl)) ?_
      conv => lhs; whnf
      refine iteK_beq_f hz0 ?_
      conv => lhs; whnf
      refine iteK_beq_f hz0 ?_
      conv => lhs; whnf
      refine nextK_of c39 ?_
      conv => lhs; whnf
      refine iteK_beq_f hz0 ?_
      conv => lhs; whnf
      refine iteK_beq_f hz0 ?_
      conv => lhs; whnf
      refine iteK_beq_f hk ?_
      conv => lhs; whnf
      refine nextK_of (aop_ix rfl rfl rfl rfl (ixL_at' (n := i - 1) hz1 (word_get hp0) rfl)) ?_
      conv => lhs; whnf
      refine iteK_bne_t p1 ?_
      conv => lhs; whnf
      refine iteK_bne_t p1 ?_
      conv => lhs; whnf
      refine iteK_bne_t p1 ?_
      conv => lhs; whnf
      refine iteK_bne_t p1 ?_
      conv => lhs; whnf
      refine iteK_bne_f p2 ?_
      conv => lhs; whnf
      refine iteK_bne_f p2 ?_
      conv => lhs; whnf
      refine iteK_bne_f p2 ?_
      conv => lhs; whnf
      refine iteK_bne_f p2 ?_
      conv => lhs; whnf
      refine iteO_t (by kernel_rfl) ?_
      conv => lhs; whnf
      refine iteK_dec_f hb0 ?_
      conv => lhs; whnf
      refine iteK_dec_f hb0 ?_
      conv => lhs; whnf
      refine iteK_dec_f hb0 ?_
      conv => lhs; whnf
      refine nextK_of (aop_ix rfl rfl rfl rfl (ixL_at' (n := i) hz (word_get hw) rfl)) ?_
      conv => lhs; whnf
      refine iteK_dec_f hb0 ?_
      conv => lhs; whnf
      refine iteK_dec_f hb0 ?_
      conv => lhs; whnf
      refine nextK_of c39 ?_
      conv => lhs; whnf
      refine iteK_dec_f hb0 ?_
      conv => lhs; whnf
      refine nextK_of c38 ?_
      conv => lhs; whnf
      refine iteK_dec_f hb0 ?_
      conv => lhs; whnf
      refine iteK_dec_f hb0 ?_
      conv => lhs; whnf
      refine iteK_dec_f hb0 ?_
      conv => lhs; whnf
      refine nextK_of (aop_ix rfl rfl rfl rfl (ixL_at' (n := n) hbn (word_get hv) rfl)) ?_
      conv => lhs; whnf
      refine iteK_dec_f hb0 ?_
      conv => lhs; whnf
      refine iteK_dec_f hb0 ?_
      conv => lhs; whnf
      refine nextK_of c39v ?_
      conv => lhs; whnf
      refine iteK_dec_f hb0 ?_
      conv => lhs; whnf
      refine nextK_of c38v ?_
      conv => lhs; whnf
      refine iteK_dec_f hb0 ?_
      conv => lhs; whnf
      refine iteK_dec_f hb0 ?_
      conv => lhs; whnf
      refine iteO_t (by kernel_rfl) ?_
      conv => lhs; whnf
      refine iteK_dec_t hle ?_
      conv => lhs; whnf
      refine Eq.trans (hih _ rfl) ?_
      rfl
    · rw [show (p.sg == [41]) = true by rcases hop with h | h | h; exact absurd h p1; exact absurd h p2; rw [h]; rfl] at cp
      conv => lhs; whnf
      refine iteK_dec_t hend ?_
      conv => lhs; whnf
      refine nextK_of (aop_ix rfl rfl rfl rfl (ixL_at' (n := i) hz (word_get hw) rfl)) ?_
      conv => lhs; whnf
      refine nextK_of co ?_
      conv => lhs; whnf
      refine nextK_of (aop_ix rfl rfl rfl rfl (ixL_at' (n := i) hz (word_get hw) rfl)) ?_
      conv => lhs; whnf
      refine nextK_of cc ?_
      conv => lhs; whnf
      refine iteK_dec_f hd ?_
      conv => lhs; whnf
      refine iteK_dec_f hd ?_
      conv => lhs; whnf
      refine iteK_dec_f hd ?_
      conv => lhs; whnf
      refine iteK_beq_f hz0 ?_
      conv => lhs; whnf
      refine iteK_beq_f hz0 ?_
      conv => lhs; whnf
      refine iteK_beq_f hz0 ?_
      conv => lhs; whnf
      refine nextK_of (aop_ix rfl rfl rfl rfl (ixL_at' (n := i) hz (word_get hw) rfl)) ?_
      conv => lhs; whnf
      refine iteK_beq_f hz0 ?_
      conv => lhs; whnf
      refine iteK_beq_f hz0 ?_
      conv => lhs; whnf
      refine nextK_of c39 ?_
      conv => lhs; whnf
      refine iteK_beq_f hz0 ?_
      conv => lhs; whnf
      refine iteK_beq_f hz0 ?_
      conv => lhs; whnf
      refine iteK_beq_f hk ?_
      conv => lhs; whnf
      refine nextK_of (aop_ix rfl rfl rfl rfl (ixL_at' (n := i - 1) hz1 (word_get hp0) rfl)) ?_
      conv => lhs; whnf
      refine iteK_bne_t p1 ?_
      conv => lhs; whnf
      refine iteK_bne_t p1 ?_
      conv => lhs; whnf
      refine iteK_bne_t p1 ?_
      conv => lhs; whnf
      refine iteK_bne_t p1 ?_
      conv => lhs; whnf
      refine iteK_bne_t p2 ?_
      conv => lhs; whnf
      refine iteK_bne_t p2 ?_
      conv => lhs; whnf
      refine nextK_of cp ?_
      conv => lhs; whnf
      refine iteK_bne_t p2 ?_
      conv => lhs; whnf
      refine iteK_bne_t p2 ?_
      conv => lhs; whnf
      refine iteO_t (by kernel_rfl) ?_
      conv => lhs; whnf
      refine iteK_dec_f hb0 ?_
      conv => lhs; whnf
      refine iteK_dec_f hb0 ?_
      conv => lhs; whnf
      refine iteK_dec_f hb0 ?_
      conv => lhs; whnf
      refine nextK_of (aop_ix rfl rfl rfl rfl (ixL_at' (n := i) hz (word_get hw) rfl)) ?_
      conv => lhs; whnf
      refine iteK_dec_f hb0 ?_
      conv => lhs; whnf
      refine iteK_dec_f hb0 ?_
      conv => lhs; whnf
      refine nextK_of c39 ?_
      conv => lhs; whnf
      refine iteK_dec_f hb0 ?_
      conv => lhs; whnf
      refine nextK_of c38 ?_
      conv => lhs; whnf
      refine iteK_dec_f hb0 ?_
      conv => lhs; whnf
      refine iteK_dec_f hb0 ?_
      conv => lhs; whnf
      refine iteK_dec_f hb0 ?_
      conv => lhs; whnf
      refine nextK_of (aop_ix rfl rfl rfl rfl (ixL_at' (n := n) hbn (word_get hv) rfl)) ?_
      conv => lhs; whnf
      refine iteK_dec_f hb0 ?_
      conv => lhs; whnf
      refine iteK_dec_f hb0 ?_
      conv => lhs; whnf
      refine nextK_of c39v ?_
      conv => lhs; whnf
      refine iteK_dec_f hb0 ?_
      conv => lhs; whnf
      refine nextK_of c38v ?_
      conv => lhs; whnf
      refine iteK_dec_f hb0 ?_
      conv => lhs; whnf
      refine iteK_dec_f hb0 ?_
      conv => lhs; whnf
      refine iteO_t (by kernel_rfl) ?_
      conv => lhs; whnf
      refine iteK_dec_t hle ?_
      conv => lhs; whnf
      refine Eq.trans (hih _ rfl) ?_
      rfl
theorem c_more (j : Nat) (hj : 100 < j) (l : List W) (b d z : Int) (i : Nat) (hz : z = (i : Int)) (hl1 : l.length ≤ 100000) (w : W) (hw : l[i]? = some w) (n1 : w.sg ≠ [40]) (n2 : w.sg ≠ [41]) (hd : ¬ d > 0) (hi0 : i ≠ 0) (hk : kindW w ≠ 0) (p : W) (hp0 : l[i - 1]? = some p) (hop : p.k = 1 ∨ p.k = 2 ∨ p.sg = [41]) (n : Nat) (hbn : b = (n : Int)) (v : W) (hv : l[n]? = some v) (hle : ¬ levelK (kindW w) ≤ levelK (kindW v)) {lp : LP} (hlp : lp = lpOf Try.prog cfg (icall Try.prog cfg j) Try.f40.ntmps 40 j (([] : Hp).map (·.1))) (lf : Nat) (st : St) (hp : prune [] [0, 3, 4, 5] st = some ⟨[(0, .d (.list (l.map W.cells))), (3, .d (.int .i64 b)), (4, .d (.int .i64 d)), (5, .d (.int .i64 z))], []⟩) (r : Option (Fx × St))
    (hih : ∀ st', prune [] [0, 3, 4, 5] st' = some ⟨[(0, .d (.list (l.map W.cells))), (3, .d (.int .i64 b)), (4, .d (.int .i64 d)), (5, .d (.int .i64 (IntKind.i64.wrap (z + 1))))], []⟩ → loopK Try.prog cfg (icall Try.prog cfg j) lp Try.f40.ntmps 40 [] (bodyAt Try.f40 4) lf st' (exitP [] (some [3])) = r) : loopK Try.prog cfg (icall Try.prog cfg j) lp Try.f40.ntmps 40 [] (bodyAt Try.f40 4) (lf + 1) st (exitP [] (some [3])) = r := by
  have hll : (l.map W.cells).length = l.length := List.length_map ..
  have hil := (List.getElem?_eq_some_iff.1 hw).1
  have hend : z < ((l.map W.cells).length : Int) := by omega
  have co := is37 w 40 j (by omega)
  have cc := is37 w 41 j (by omega)
  have c39 := kind39 w j (by omega)
  rw [beq_f n1] at co
  rw [beq_f n2] at cc
  have hz0 : z ≠ 0 := by omega
  have hz1 : IntKind.i64.wrap (z - 1) = ((i - 1 : Nat) : Int) := by rw [Go.Rx.wrap_i64 (by omega) (by omega)]; omega
  have cp := is37 p 41 j (by omega)
  have hb0 : ¬ b < 0 := by omega
  have c39v := kind39 v j (by omega)
  have c38 := level38 (kindW w) j (by omega)
  have c38v := level38 (kindW v) j (by omega)
  generalize kindW w = kw at *
  generalize kindW v = kv at *
  generalize levelK kw = lw at *
  generalize levelK kv = lv at *
  refine loop_step hp ?_
  by_cases p1 : p.k = 1
  · conv => lhs; whnf
    refine iteK_dec_t hend ?_
    conv => lhs; whnf
    refine nextK_of (aop_ix rfl rfl rfl rfl (ixL_at' (n := i) hz (word_get hw) rfl)) ?_
    conv => lhs; whnf
    refine nextK_of co ?_
    conv => lhs; whnf
    refine nextK_of (aop_ix rfl rfl rfl rfl (ixL_at' (n := i) hz (word_get hw) rfl)) ?_
    conv => lhs; whnf
    refine nextK_of cc ?_
    conv => lhs; whnf
    refine iteK_dec_f hd ?_
    conv => lhs; whnf
    refine iteK_dec_f hd ?_
    conv => lhs; whnf
    refine iteK_dec_f hd ?_
    conv => lhs; whnf
    refine iteK_beq_f hz0 ?_
    conv => lhs; whnf
    refine iteK_beq_f hz0 ?_
    conv => lhs; whnf
    refine iteK_beq_f hz0 ?_
    conv => lhs; whnf
    refine nextK_of (aop_ix rfl rfl rfl rfl (ixL_at' (n := i) hz (word_get hw) rfl)) ?_
    conv => lhs; whnf
    refine iteK_beq_f hz0 ?_
    conv => lhs; whnf
    refine iteK_beq_f hz0 ?_
    conv => lhs; whnf
    refine nextK_of c39 ?_
    conv => lhs; whnf
    refine iteK_beq_f hz0 ?_
    conv => lhs; whnf
    refine iteK_beq_f hz0 ?_
    conv => lhs; whnf
    refine iteK_beq_f hk ?_
    conv => lhs; whnf
    refine nextK_of (aop_ix rfl rfl rfl rfl (ixL_at' (n := i - 1) hz1 (word_get hp0) rfl)) ?_
    conv => lhs; whnf
    refine iteK_bne_f p1 ?_
    conv => lhs; whnf
    refine iteK_bne_f p1 ?_
    conv => lhs; whnf
    refine iteK_bne_f p1 ?_
    conv => lhs; whnf
    refine iteK_bne_f p1 ?_
    conv => lhs; whnf
    refine iteO_t (by kernel_rfl) ?_
    conv => lhs; whnf
    refine iteK_dec_f hb0 ?_
    conv => lhs; whnf
    refine iteK_dec_f hb0 ?_
    conv => lhs; whnf
    refine iteK_dec_f hb0 ?_
    conv => lhs; whnf
    refine nextK_of (aop_ix rfl rfl rfl rfl (ixL_at' (n := i) hz (word_get hw) rfl)) ?_
    conv => lhs; whnf
    refine iteK_dec_f hb0 ?_
    conv => lhs; whnf
    refine iteK_dec_f hb0 ?_
    conv => lhs; whnf
    refine nextK_of c39 ?_
    conv => lhs; whnf
    refine iteK_dec_f hb0 ?_
    conv => lhs; whnf
    refine nextK_of c38 ?_
    conv => lhs; whnf
    refine iteK_dec_f hb0 ?_
    conv => lhs; whnf
    refine iteK_dec_f hb0 ?_
    conv => lhs; whnf
    refine iteK_dec_f hb0 ?_
    conv => lhs; whnf
    refine nextK_of (aop_ix rfl rfl rfl rfl (ixL_at' (n := n) hbn (word_get hv) rfl)) ?_
    conv => lhs; whnf
    refine iteK_dec_f hb0 ?_
    conv => lhs; whnf
    refine iteK_dec_f hb0 ?_
    conv => lhs; whnf
    refine nextK_of c39v ?_
    conv => lhs; whnf
    refine iteK_dec_f hb0 ?_
    conv => lhs; whnf
    refine nextK_of c38v ?_
    conv => lhs; whnf
    refine iteK_dec_f hb0 ?_
    conv => lhs; whnf
    refine iteK_dec_f hb0 ?_
    conv => lhs; whnf
    refine iteO_t (by kernel_rfl) ?_
    conv => lhs; whnf
    refine iteK_dec_f hle ?_
    conv => lhs; whnf
    refine Eq.trans (hih _ rfl) ?_
    rfl
  · by_cases p2 : p.k = 2
    · conv => lhs; whnf
      refine iteK_dec_t hend ?_
      conv => lhs; whnf
      refine nextK_of (aop_ix rfl rfl rfl rfl (ixL_at' (n := i) hz (word_get hw) rfl)) ?_
      conv => lhs; whnf
      refine nextK_of co ?_
      conv => lhs; whnf
      refine nextK_of (aop_ix rfl rfl rfl rfl (ixL_at' (n := i) hz (word_get hw) rfl)) ?_
      conv => lhs; whnf
      refine nextK_of cc ?_
      conv => lhs; whnf
      refine iteK_dec_f hd ?_
      conv => lhs; whnf
      refine iteK_dec_f hd ?_
      conv => lhs; whnf
      refine iteK_dec_f hd ?_
      conv => lhs; whnf
      refine iteK_beq_f hz0 ?_
      conv => lhs; whnf
      refine iteK_beq_f hz0 ?_
      conv => lhs; whnf
      refine iteK_beq_f hz0 ?_
      conv => lhs; whnf
      refine nextK_of (aop_ix rfl rfl rfl rfl (ixL_at' (n := i) hz (word_get hw) rfl)) ?_
      conv => lhs; whnf
      refine iteK_beq_f hz0 ?_
      conv => lhs; whnf
      refine iteK_beq_f hz0 ?_
      conv => lhs; whnf
      refine nextK_of c39 ?_
      conv => lhs; whnf
      refine iteK_beq_f hz0 ?_
      conv => lhs; whnf
      refine iteK_beq_f hz0 ?_
      conv => lhs; whnf
      refine iteK_beq_f hk ?_
      conv => lhs; whnf
      refine nextK_of (aop_ix rfl rfl rfl rfl (ixL_at' (n := i - 1) hz1 (word_get hp0) rfl)) ?_
      conv => lhs; whnf
      refine iteK_bne_t p1 ?_
      conv => lhs; whnf
      refine iteK_bne_t p1 ?_
      conv => lhs; whnf
      refine iteK_bne_t p1 ?_
      conv => lhs; whnf
      refine iteK_bne_t p1 ?_
      conv => lhs; whnf
      refine iteK_bne_f p2 ?_
      conv => lhs; whnf
      refine iteK_bne_f p2 ?_
      conv => lhs; whnf
      refine iteK_bne_f p2 ?_
      conv => lhs; whnf
      refine iteK_bne_f p2 ?_
      conv => lhs; whnf
      refine iteO_t (by kernel_rfl) ?_
      conv => lhs; whnf
      refine iteK_dec_f hb0 ?_
      conv => lhs; whnf
      refine iteK_dec_f hb0 ?_
      conv => lhs; whnf
      refine iteK_dec_f hb0 ?_
      conv => lhs; whnf
      refine nextK_of (aop_ix rfl rfl rfl rfl (ixL_at' (n := i) hz (word_get hw) rfl)) ?_
      conv => lhs; whnf
      refine iteK_dec_f hb0 ?_
      conv => lhs; whnf
      refine iteK_dec_f hb0 ?_
      conv => lhs; whnf
      refine nextK_of c39 ?_
      conv => lhs; whnf
      refine iteK_dec_f hb0 ?_
      conv => lhs; whnf
      refine nextK_of c38 ?_
      conv => lhs; whnf
      refine iteK_dec_f hb0 ?_
      conv => lhs; whnf
      refine iteK_dec_f hb0 ?_
      conv => lhs; whnf
      refine iteK_dec_f hb0 ?_
      conv => lhs; whnf
      refine nextK_of (aop_ix rfl rfl rfl rfl (ixL_at' (n := n) hbn (word_get hv) rfl)) ?_
      conv => lhs; whnf
      refine iteK_dec_f hb0 ?_
      conv => lhs; whnf
      refine iteK_dec_f hb0 ?_
      conv => lhs; whnf
      refine nextK_of c39v ?_
      conv => lhs; whnf
      refine iteK_dec_f hb0 ?_
      conv => lhs; whnf
      refine nextK_of c38v ?_
      conv => lhs; whnf
      refine iteK_dec_f hb0 ?_
      conv => lhs; whnf
      refine iteK_dec_f hb0 ?_
      conv => lhs; whnf
      refine iteO_t (by kernel_rfl) ?_
      conv => lhs; whnf
      refine iteK_dec_f hle ?_
      conv => lhs; whnf
      refine Eq.trans (hih _ rfl) ?_
      rfl
    · rw [show (p.sg == [41]) = true by rcases hop with h | h | h; exact absurd h p1; exact absurd h p2; rw [h]; rfl] at cp
      conv => lhs; whnf
      refine iteK_dec_t hend ?_
      conv => lhs; whnf
      refine nextK_of (aop_ix rfl rfl rfl rfl (ixL_at' (n := i) hz (word_get hw) rfl)) ?_
      conv => lhs; whnf
      refine nextK_of co ?_
      conv => lhs; whnf
      refine nextK_of (aop_ix rfl rfl rfl rfl (ixL_at' (n := i) hz (word_get hw) rfl)) ?_
      conv => lhs; whnf
      refine nextK_of cc ?_
      conv => lhs; whnf
      refine iteK_dec_f hd ?_
      conv => lhs; whnf
      refine iteK_dec_f hd ?_
      conv => lhs; whnf
      refine iteK_dec_f hd ?_
      conv => lhs; whnf
      refine iteK_beq_f hz0 ?_
      conv => lhs; whnf
      refine iteK_beq_f hz0 ?_
      conv => lhs; whnf
      refine iteK_beq_f hz0 ?_
      conv => lhs; whnf
      refine nextK_of (aop_ix rfl rfl rfl rfl (ixL_at' (n := i) hz (word_get hw) rfl)) ?_
      conv => lhs; whnf
      refine iteK_beq_f hz0 ?_
      conv => lhs; whnf
      refine iteK_beq_f hz0 ?_
      conv => lhs; whnf
      refine nextK_of c39 ?_
      conv => lhs; whnf
      refine iteK_beq_f hz0 ?_
      conv => lhs; whnf
      refine iteK_beq_f hz0 ?_
      conv => lhs; whnf
      refine iteK_beq_f hk ?_
      conv => lhs; whnf
      refine nextK_of (aop_ix rfl rfl rfl rfl (ixL_at' (n := i - 1) hz1 (word_get hp0) rfl)) ?_
      conv => lhs; whnf
      refine iteK_bne_t p1 ?_
      conv => lhs; whnf
      refine iteK_bne_t p1 ?_
      conv => lhs; whnf
      refine iteK_bne_t p1 ?_
      conv => lhs; whnf
      refine iteK_bne_t p1 ?_
      conv => lhs; whnf
      refine iteK_bne_t p2 ?_
      conv => lhs; whnf
      refine iteK_bne_t p2 ?_
      conv => lhs; whnf
      refine nextK_of cp ?_
      conv => lhs; whnf
      refine iteK_bne_t p2 ?_
      conv => lhs; whnf
      refine iteK_bne_t p2 ?_
      conv => lhs; whnf
      refine iteO_t (by kernel_rfl) ?_
      conv => lhs; whnf
      refine iteK_dec_f hb0 ?_
      conv => lhs; whnf
      refine iteK_dec_f hb0 ?_
      conv => lhs; whnf
      refine iteK_dec_f hb0 ?_
      conv => lhs; whnf
      refine nextK_of (aop_ix rfl rfl rfl rfl (ixL_at' (n := i) hz (word_get hw) rfl)) ?_
      conv => lhs; whnf
      refine iteK_dec_f hb0 ?_
      conv => lhs; whnf
      refine iteK_dec_f hb0 ?_
      conv => lhs; whnf
      refine nextK_of c39 ?_
      conv => lhs; whnf
      refine iteK_dec_f hb0 ?_
      conv => lhs; whnf
      refine nextK_of c38 ?_
      conv => lhs; whnf
      refine iteK_dec_f hb0 ?_
      conv => lhs; whnf
      refine iteK_dec_f hb0 ?_
      conv => lhs; whnf
      refine iteK_dec_f hb0 ?_
      conv => lhs; whnf
      refine nextK_of (aop_ix rfl rfl rfl rfl (ixL_at' (n := n) hbn (word_get hv) rfl)) ?_
      conv => lhs; whnf
      refine iteK_dec_f hb0 ?_
      conv => lhs; whnf
      refine iteK_dec_f hb0 ?_
      conv => lhs; whnf
      refine nextK_of c39v ?_
      conv => lhs; whnf
      refine iteK_dec_f hb0 ?_
      conv => lhs; whnf
      refine nextK_of c38v ?_
      conv => lhs; whnf
      refine iteK_dec_f hb0 ?_
      conv => lhs; whnf
      refine iteK_dec_f hb0 ?_
      conv => lhs; whnf
      refine iteO_t (by kernel_rfl) ?_
      conv => lhs; whnf
      refine iteK_dec_f hle ?_
      conv => lhs; whnf
      refine Eq.trans (hih _ rfl) ?_
      rfl
def BRel (l : List W) (b : Int) : Option (Nat × W) → Prop
  | none => b = -1
  | some (n, v) => b = (n : Int) ∧ l[n]? = some v
def bestI : Option (Nat × W) → Int
  | none => -1
  | some (n, _) => (n : Int)
def prevL (l : List W) (i : Nat) : Option W := if i = 0 then none else l[i - 1]?
theorem deepW_o {w : W} (h : w.sg = [40]) (d : Int) : deepW w d = d + 1 := by unfold deepW; rw [if_pos h]
theorem deepW_c {w : W} (h : w.sg = [41]) (d : Int) : deepW w d = d - 1 := by unfold deepW; rw [if_neg (by rw [h]; decide), if_pos h]
theorem deepW_n {w : W} (h1 : w.sg ≠ [40]) (h2 : w.sg ≠ [41]) (d : Int) : deepW w d = d := by unfold deepW; rw [if_neg h1, if_neg h2]
theorem opnd_iff (p : W) : opnd p = true ↔ p.k = 1 ∨ p.k = 2 ∨ p.sg = [41] := by
  unfold opnd
  simp only [Bool.or_eq_true, decide_eq_true_eq, beq_iff_eq, or_assoc]
theorem cutL (j : Nat) (l : List W) (hl1 : l.length ≤ 100000) (hj : 100 < j) {lp : LP} (hlp : lp = lpOf Try.prog cfg (icall Try.prog cfg j) Try.f40.ntmps 40 j (([] : Hp).map (·.1))) : ∀ (m i : Nat) (b d : Int) (bo : Option (Nat × W)) (lf : Nat) (st : St), l.length - i = m → i ≤ l.length → -(i : Int) ≤ d → d ≤ i → BRel l b bo → m < lf → prune [] [0, 3, 4, 5] st = some ⟨[(0, .d (.list (l.map W.cells))), (3, .d (.int .i64 b)), (4, .d (.int .i64 d)), (5, .d (.int .i64 (i : Int)))], []⟩ →
    loopK Try.prog cfg (icall Try.prog cfg j) lp Try.f40.ntmps 40 [] (bodyAt Try.f40 4) lf st (exitP [] (some [3])) = some (.exit 0, ⟨[(3, .d (.int .i64 (bestI (cutW (l.drop i) (prevL l i) i d bo))))], []⟩) := by
  intro m
  induction m with
  | zero =>
    intro i b d bo lf st hm hi hd1 hd2 hb hlf hp
    obtain ⟨lf, rfl⟩ : ∃ n, lf = n + 1 := ⟨lf - 1, by omega⟩
    rw [List.drop_eq_nil_of_le (by omega), cutW, c_end j (by omega) l b d i i rfl hl1 (by omega) hlp lf st hp]
    cases bo with
    | none => rw [show b = bestI none from hb]
    | some nv => rw [show b = bestI (some nv) from hb.1]
  | succ m ih =>
    intro i b d bo lf st hm hi hd1 hd2 hb hlf hp
    obtain ⟨lf, rfl⟩ : ∃ n, lf = n + 1 := ⟨lf - 1, by omega⟩
    obtain ⟨w, hw⟩ : ∃ w, l[i]? = some w := ⟨_, List.getElem?_eq_getElem (show i < l.length by omega)⟩
    have ez : IntKind.i64.wrap ((i : Int) + 1) = ((i + 1 : Nat) : Int) := by rw [Go.Rx.wrap_i64 (by omega) (by omega)]; omega
    have ep : prevL l (i + 1) = some w := by unfold prevL; rw [if_neg (by omega)]; exact hw
    rw [drop_at hw, cutW]
    by_cases s1 : w.sg = [40]
    · rw [deepW_o s1, if_pos (.inr (.inl (by rw [kindW_sg s1]; decide)))]
      have ed : IntKind.i64.wrap (d + 1) = d + 1 := Go.Rx.wrap_i64 (by omega) (by omega)
      have hf := fun r h => c_open j (by omega) l b d i i rfl hl1 w hw s1 hlp lf st hp r h
      rw [ez, ed] at hf
      exact hf _ (fun st' hp' => by rw [← ep]; exact ih (i + 1) b (d + 1) bo lf st' (by omega) (by omega) (by omega) (by omega) hb (by omega) hp')
    by_cases s2 : w.sg = [41]
    · rw [deepW_c s2, if_pos (.inr (.inl (by rw [kindW_sg s2]; decide)))]
      have ed : IntKind.i64.wrap (d - 1) = d - 1 := Go.Rx.wrap_i64 (by omega) (by omega)
      have hf := fun r h => c_close j (by omega) l b d i i rfl hl1 w hw s2 hlp lf st hp r h
      rw [ez, ed] at hf
      exact hf _ (fun st' hp' => by rw [← ep]; exact ih (i + 1) b (d - 1) bo lf st' (by omega) (by omega) (by omega) (by omega) hb (by omega) hp')
    rw [deepW_n s1 s2]
    have nxt := fun b' bo' (hb' : BRel l b' bo') (st' : St) (hp' : prune [] [0, 3, 4, 5] st' = some ⟨[(0, .d (.list (l.map W.cells))), (3, .d (.int .i64 b')), (4, .d (.int .i64 d)), (5, .d (.int .i64 ((i + 1 : Nat) : Int)))], []⟩) => ih (i + 1) b' d bo' lf st' (by omega) (by omega) (by omega) (by omega) hb' (by omega) hp'
    rw [ep] at nxt
    by_cases g1 : d > 0
    · rw [if_pos (.inl g1)]
      have hf := fun r h => c_deep j (by omega) l b d i i rfl hl1 w hw s1 s2 g1 hlp lf st hp r h
      rw [ez] at hf
      exact hf _ (fun st' hp' => nxt b bo hb st' hp')
    by_cases g2 : kindW w = 0
    · rw [if_pos (.inr (.inl g2))]
      have hf := fun r h => c_zero j (by omega) l b d i i rfl hl1 w hw s1 s2 g2 hlp lf st hp r h
      rw [ez] at hf
      exact hf _ (fun st' hp' => nxt b bo hb st' hp')
    by_cases g3 : i = 0
    · rw [if_pos (.inr (.inr (by unfold prevL; rw [if_pos g3]; rfl)))]
      have hf := fun r h => c_first j (by omega) l b d i i rfl hl1 w hw s1 s2 g3 hlp lf st hp r h
      rw [ez] at hf
      exact hf _ (fun st' hp' => nxt b bo hb st' hp')
    obtain ⟨p, hp0⟩ : ∃ p, l[i - 1]? = some p := ⟨_, List.getElem?_eq_getElem (show i - 1 < l.length by omega)⟩
    have epp : prevL l i = some p := by unfold prevL; rw [if_neg g3]; exact hp0
    rw [epp]
    show _ = some (Fx.exit 0, _)
    by_cases g4 : opnd p = true
    · rw [if_neg (by rintro (h | h | h); exact g1 h; exact g2 h; rw [opndO, g4] at h; cases h)]
      have g4' := (opnd_iff p).1 g4
      cases bo with
      | none =>
        have hb' : b = -1 := hb
        have hf := fun r h => c_new j (by omega) l b d i i rfl hl1 w hw s1 s2 g1 g3 g2 p hp0 g4' (by omega) hlp lf st hp r h
        rw [ez] at hf
        exact hf _ (fun st' hp' => nxt i (some (i, w)) ⟨rfl, hw⟩ st' hp')
      | some nv =>
        obtain ⟨n, v⟩ := nv
        obtain ⟨hbn, hv⟩ := hb
        by_cases g5 : levelK (kindW w) ≤ levelK (kindW v)
        · rw [show lessB w (some (n, v)) = true by unfold lessB; simpa using g5, if_pos rfl]
          have hf := fun r h => c_less j (by omega) l b d i i rfl hl1 w hw s1 s2 g1 g3 g2 p hp0 g4' n hbn v hv g5 hlp lf st hp r h
          rw [ez] at hf
          exact hf _ (fun st' hp' => nxt i (some (i, w)) ⟨rfl, hw⟩ st' hp')
        · rw [show lessB w (some (n, v)) = false by unfold lessB; simpa using g5, if_neg (by simp)]
          have hf := fun r h => c_more j (by omega) l b d i i rfl hl1 w hw s1 s2 g1 g3 g2 p hp0 g4' n hbn v hv g5 hlp lf st hp r h
          rw [ez] at hf
          exact hf _ (fun st' hp' => nxt b (some (n, v)) ⟨hbn, hv⟩ st' hp')
    · rw [if_pos (.inr (.inr (by rw [opndO]; simpa using g4)))]
      have g4' : ¬ (p.k = 1 ∨ p.k = 2 ∨ p.sg = [41]) := fun h => g4 ((opnd_iff p).2 h)
      have hf := fun r h => c_nop j (by omega) l b d i i rfl hl1 w hw s1 s2 g1 g3 g2 p hp0 (fun h => g4' (.inl h)) (fun h => g4' (.inr (.inl h))) (fun h => g4' (.inr (.inr h))) hlp lf st hp r h
      rw [ez] at hf
      exact hf _ (fun st' hp' => nxt b bo hb st' hp')
theorem split40 (l : List W) (hl1 : l.length ≤ 100000) (k : Nat) (hk : l.length + 200 < k) : icall Try.prog cfg k 40 [.d (.list (l.map W.cells))] [] = some (.ret (.d (.int .i64 (bestI (cutW l none 0 0 none)))), []) := by
  obtain ⟨k, rfl⟩ : ∃ j, k = j + 1 := ⟨k - 1, by omega⟩
  obtain ⟨lp, hlp⟩ : ∃ lp, lp = lpOf Try.prog cfg (icall Try.prog cfg k) Try.f40.ntmps 40 k (([] : Hp).map (·.1)) := ⟨_, rfl⟩
  have hL := fun st hp => cutL k l hl1 (by omega) hlp l.length 0 (-1) 0 none k st (by omega) (by omega) (by omega) (by omega) rfl (by omega) hp
  rw [List.drop_zero, show prevL l 0 = none from rfl] at hL
  generalize bestI (cutW l none 0 0 none) = r at *
  rw [icall_body rfl Try.func40, ← hlp]
  conv => lhs; whnf
  refine nextK_of (loop_at hlp (hL _ rfl)) ?_
  conv => lhs; whnf
  refine Eq.trans (b := some (Res.ret (AV.d (D.int IntKind.i64 r)), [])) (by kernel_rfl) ?_
  rfl
end Go.Rx07
