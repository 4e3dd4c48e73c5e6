/- A part of the proof of the law: what functions of the program come to, walked by Rx, or plain facts on it. -/
import Derived.Test.YtaghcidejnhahaaRNm1
open Go Go.Rx Go.Proofs Go.Rx12 Go.RxTree
set_option maxRecDepth 1000000
set_option maxHeartbeats 4000000
set_option linter.unusedVariables false
set_option linter.unusedSimpArgs false
namespace Go.Rx12
/-- Which is the best so far. -/
def bI : Option (Nat × Tx) → Int
  | none => -1
  | some (j, _) => (j : Int)
/-- The best stands where it says. -/
def At (ps : List PlaceT) (b : Option (Nat × Tx)) : Prop := ∀ j x, b = some (j, x) → ∃ p, ps[j]? = some p ∧ p.name = x
abbrev bsF (kind : Int) (oA : AV) (last : Tx) (b z : Int) : List (Nat × AV) := [(1, .d (.int .i64 kind)), (2, .ptr (.slot 2) 0), (5, oA), (6, .d (.str last)), (7, .d (.int .i64 b)), (8, .d (.int .i64 z))]
abbrev bsH (id : List UInt8) (pl : List (List D)) (R : Hp) : Hp := [(.slot 2, .cells [.d (.str id), .d (.list pl)])] ++ R
theorem best_skip {kind : Int} {o : Bool} {last : Tx} {p : PlaceT} (r : List PlaceT) (i : Nat) (b : Option (Nat × Tx)) (h : skipB kind o last p = true) : bestF kind o last (p :: r) i b = bestF kind o last r (i + 1) b := by rw [bestF_cons, if_pos h]
theorem best_first {kind : Int} {o : Bool} {last : Tx} {p : PlaceT} (r : List PlaceT) (i : Nat) (h : skipB kind o last p = false) : bestF kind o last (p :: r) i none = bestF kind o last r (i + 1) (some (i, p.name)) := by rw [bestF_cons, if_neg (by rw [h]; exact Bool.false_ne_true)]
theorem best_less {kind : Int} {o : Bool} {last : Tx} {p : PlaceT} (r : List PlaceT) (i : Nat) {j : Nat} {x : Tx} (h : skipB kind o last p = false) (hl : p.name < x) : bestF kind o last (p :: r) i (some (j, x)) = bestF kind o last r (i + 1) (some (i, p.name)) := by rw [bestF_cons, if_neg (by rw [h]; exact Bool.false_ne_true)]; dsimp only; rw [if_pos hl]
theorem best_keep {kind : Int} {o : Bool} {last : Tx} {p : PlaceT} (r : List PlaceT) (i : Nat) {j : Nat} {x : Tx} (h : skipB kind o last p = false) (hl : ¬ p.name < x) : bestF kind o last (p :: r) i (some (j, x)) = bestF kind o last r (i + 1) (some (j, x)) := by rw [bestF_cons, if_neg (by rw [h]; exact Bool.false_ne_true)]; dsimp only; rw [if_neg hl]
theorem leq_t {a b : Tx} (h : ¬ b < a) : (Op.bytesLess a b || a == b) = true := by
  rw [bl_eq]
  rcases tx_le (tx_nle h) with h1 | h1
  · rw [decide_eq_true h1]; rfl
  · rw [h1]; simp
theorem leq_f {a b : Tx} (h : b < a) : (Op.bytesLess a b || a == b) = false := by
  rw [bl_eq, decide_eq_false (fun h1 => tx_irr (tx_trans h h1)), Bool.false_or]
  simp only [beq_eq_false_iff_ne]
  intro e; rw [e] at h; exact tx_irr h
theorem lss_t {a b : Tx} (h : a < b) : Op.bytesLess a b = true := by rw [bl_eq, decide_eq_true h]
theorem lss_f {a b : Tx} (h : ¬ a < b) : Op.bytesLess a b = false := by rw [bl_eq, decide_eq_false h]
theorem bsNil (id : List UInt8) (ps : List PlaceT) (hps : ps.length ≤ 5000) (kind : Int) (last : Tx) (j : Nat) {lp : LP} (hlp : lp = lpOf Try.prog cfg (icall Try.prog cfg j) Try.f16.ntmps 16 j (([] : Hp).map (·.1))) :
    ∀ (m i : Nat) (z : Int) (b : Option (Nat × Tx)) (lf : Nat) (st : St), ps.length - i = m → i ≤ ps.length → z = (i : Int) → At ps b → m < lf → prune [] [1, 2, 5, 6, 7, 8] st = some ⟨bsF kind .nilsl last (bI b) z, bsH id (ps.map PlaceT.cells) []⟩ →
      loopK Try.prog cfg (icall Try.prog cfg j) lp Try.f16.ntmps 16 [] (bodyAt Try.f16 5) lf st (exitP [] (some [1, 2, 5, 7])) = some (.exit 2, ⟨[(1, .d (.int .i64 kind)), (2, .ptr (.slot 2) 0), (5, .nilsl), (7, .d (.int .i64 (bI (bestF kind false last (ps.drop i) i b))))], bsH id (ps.map PlaceT.cells) []⟩) := by
  have hmx : 200000 ≤ maxLen := by decide
  intro m
  induction m with
  | zero =>
    intro i z b lf st hi hle hz hb hlf hp
    obtain ⟨lf, rfl⟩ : ∃ n, lf = n + 1 := ⟨lf - 1, by omega⟩
    have hend : ¬ z < ((ps.map PlaceT.cells).length : Int) := by rw [List.length_map]; omega
    rw [List.drop_eq_nil_of_le (by omega), show bestF kind false last [] i b = b from rfl]
    clear hb
    generalize bI b = bz at *
    generalize hpc : ps.map PlaceT.cells = pl at *
    refine loop_step hp ?_
    conv => lhs; whnf
    refine iteK_dec_f hend ?_
    conv => lhs; whnf
    refine Eq.trans (b := some (Fx.exit (2 : Nat), St.mk [((1 : Nat), AV.d (D.int IntKind.i64 kind)), ((2 : Nat), AV.ptr (Nm.slot (2 : Nat)) (0 : Nat)), ((5 : Nat), AV.nilsl), ((7 : Nat), AV.d (D.int IntKind.i64 bz))] [(Nm.slot (2 : Nat), AObj.cells [AV.d (D.str id), AV.d (D.list pl)])])) (by kernel_rfl) ?_
    rfl
  | succ m ihm =>
    intro i z b lf st hi hle hz hb hlf hp
    obtain ⟨lf, rfl⟩ : ∃ n, lf = n + 1 := ⟨lf - 1, by omega⟩
    have hend : z < ((ps.map PlaceT.cells).length : Int) := by rw [List.length_map]; omega
    have hx : ps[i]? = some ps[i] := List.getElem?_eq_getElem (by omega)
    rw [List.drop_eq_getElem_cons (by omega)]
    generalize ps[i] = p at hx ⊢
    have hpg := place_get hx
    have hih := fun b hb lf st => ihm (i + 1) (IntKind.i64.wrap (z + 1)) b lf st (by omega) (by omega) (wrap_up hz (by omega)) hb
    have hAt : At ps (some (i, p.name)) := fun j x h => by
      injection h with h
      injection h with h1 h2
      exact ⟨p, by rw [← h1]; exact hx, h2⟩
    by_cases hk : p.kind = kind
    · have hke : (p.kind == kind) = true := by simpa using hk
      have hsk : skipB kind false last p = false := skip_no.2 ⟨hk, fun h => by cases h⟩
      cases b with
      | none =>
        rw [best_first _ _ hsk]
        have hih := hih _ hAt
        generalize bestF kind false last (ps.drop (i + 1)) (i + 1) (some (i, p.name)) = q at *
        generalize hpc : ps.map PlaceT.cells = pl at *
        obtain ⟨kd, nm, nv, ar, ou⟩ := p
        dsimp only at *
        subst hk
        subst hz
        refine loop_step hp ?_
        conv => lhs; whnf
        refine iteK_dec_t hend ?_
        conv => lhs; whnf
        refine nextK_of (aop_ix rfl rfl rfl rfl (ixL_at' (n := i) rfl hpg rfl)) ?_
        conv => lhs; whnf
        refine iteK_bne (fun h1 => ?_) (fun h1 => ?_)
        · rw [bne_t h1]
          (exfalso; omega)
        · rw [bne_f h1]
          conv => lhs; whnf
          refine iteO_t (by kernel_rfl) ?_
          conv => lhs; whnf
          refine iteO_t (by kernel_rfl) ?_
          conv => lhs; whnf
          refine Eq.trans (hih lf _ (by omega) rfl) ?_
          rfl
      | some jx =>
        obtain ⟨bj, bx⟩ := jx
        obtain ⟨bp, hb1, hb2⟩ := hb bj bx rfl
        have hbg := place_get hb1
        rw [hb2] at hbg
        have hbz : ¬ (bj : Int) < 0 := by omega
        by_cases hlt : p.name < bx
        · rw [best_less _ _ hsk hlt]
          have hls := lss_t hlt
          have hih := hih _ hAt
          generalize bestF kind false last (ps.drop (i + 1)) (i + 1) (some (i, p.name)) = q at *
          generalize hpc : ps.map PlaceT.cells = pl at *
          obtain ⟨kd, nm, nv, ar, ou⟩ := p
          dsimp only at *
          subst hk
          subst hz
          refine loop_step hp ?_
          conv => lhs; whnf
          refine iteK_dec_t hend ?_
          conv => lhs; whnf
          refine nextK_of (aop_ix rfl rfl rfl rfl (ixL_at' (n := i) rfl hpg rfl)) ?_
          conv => lhs; whnf
          refine iteK_bne (fun h1 => ?_) (fun h1 => ?_)
          · rw [bne_t h1]
            (exfalso; omega)
          · rw [bne_f h1]
            conv => lhs; whnf
            refine iteO_t (by kernel_rfl) ?_
            conv => lhs; whnf
            refine nextK_of (aop_ix rfl rfl rfl rfl (ixL_at' (n := bj) rfl hbg rfl)) ?_
            conv => lhs; whnf
            refine iteO_t (by kernel_rfl) ?_
            conv => lhs; whnf
            refine iteK_t hls ?_
            conv => lhs; whnf
            refine Eq.trans (hih lf _ (by omega) rfl) ?_
            rfl
        · rw [best_keep _ _ hsk hlt]
          have hls := lss_f hlt
          have hih := hih _ hb
          generalize bestF kind false last (ps.drop (i + 1)) (i + 1) (some (bj, bx)) = q at *
          generalize hpc : ps.map PlaceT.cells = pl at *
          obtain ⟨kd, nm, nv, ar, ou⟩ := p
          dsimp only at *
          subst hk
          refine loop_step hp ?_
          conv => lhs; whnf
          refine iteK_dec_t hend ?_
          conv => lhs; whnf
          refine nextK_of (aop_ix rfl rfl rfl rfl (ixL_at' hz hpg rfl)) ?_
          conv => lhs; whnf
          refine iteK_bne (fun h1 => ?_) (fun h1 => ?_)
          · rw [bne_t h1]
            (exfalso; omega)
          · rw [bne_f h1]
            conv => lhs; whnf
            refine iteO_t (by kernel_rfl) ?_
            conv => lhs; whnf
            refine nextK_of (aop_ix rfl rfl rfl rfl (ixL_at' (n := bj) rfl hbg rfl)) ?_
            conv => lhs; whnf
            refine iteO_t (by kernel_rfl) ?_
            conv => lhs; whnf
            refine iteK_f hls ?_
            conv => lhs; whnf
            refine Eq.trans (hih lf _ (by omega) rfl) ?_
            rfl
    · have hsk : skipB kind false last p = true := by
        cases h : skipB kind false last p with
        | true => rfl
        | false => exact absurd (skip_no.1 h).1 hk
      rw [best_skip _ _ _ hsk]
      have hih := hih b hb
      generalize bestF kind false last (ps.drop (i + 1)) (i + 1) b = q at *
      generalize hpc : ps.map PlaceT.cells = pl at *
      obtain ⟨kd, nm, nv, ar, ou⟩ := p
      dsimp only at *
      refine loop_step hp ?_
      conv => lhs; whnf
      refine iteK_dec_t hend ?_
      conv => lhs; whnf
      refine nextK_of (aop_ix rfl rfl rfl rfl (ixL_at' hz hpg rfl)) ?_
      conv => lhs; whnf
      refine iteK_bne_t hk ?_
      conv => lhs; whnf
      refine iteK_bne_t hk ?_
      conv => lhs; whnf
      refine iteK_bne_t hk ?_
      conv => lhs; whnf
      refine iteK_bne_t hk ?_
      conv => lhs; whnf
      refine iteK_bne_t hk ?_
      conv => lhs; whnf
      refine iteK_bne_t hk ?_
      conv => lhs; whnf
      refine Eq.trans (hih lf _ (by omega) rfl) ?_
      rfl
theorem bsOwn (id : List UInt8) (ps : List PlaceT) (hps : ps.length ≤ 5000) (kind : Int) (last : Tx) (no : Nat) (oD : List (List D)) (hno : ((oD.take no).length : Int) > 0) (j : Nat) {lp : LP} (hlp : lp = lpOf Try.prog cfg (icall Try.prog cfg j) Try.f16.ntmps 16 j (([] : Hp).map (·.1))) :
    ∀ (m i : Nat) (z : Int) (b : Option (Nat × Tx)) (lf : Nat) (st : St), ps.length - i = m → i ≤ ps.length → z = (i : Int) → At ps b → m < lf → prune [] [1, 2, 5, 6, 7, 8] st = some ⟨bsF kind (.own (.slot 62) 0 no) last (bI b) z, bsH id (ps.map PlaceT.cells) [arrS (.slot 62) 0 oD]⟩ →
      loopK Try.prog cfg (icall Try.prog cfg j) lp Try.f16.ntmps 16 [] (bodyAt Try.f16 5) lf st (exitP [] (some [1, 2, 5, 7])) = some (.exit 2, ⟨[(1, .d (.int .i64 kind)), (2, .ptr (.slot 2) 0), (5, (.own (.slot 62) 0 no)), (7, .d (.int .i64 (bI (bestF kind true last (ps.drop i) i b))))], bsH id (ps.map PlaceT.cells) [arrS (.slot 62) 0 oD]⟩) := by
  have hmx : 200000 ≤ maxLen := by decide
  intro m
  induction m with
  | zero =>
    intro i z b lf st hi hle hz hb hlf hp
    obtain ⟨lf, rfl⟩ : ∃ n, lf = n + 1 := ⟨lf - 1, by omega⟩
    have hend : ¬ z < ((ps.map PlaceT.cells).length : Int) := by rw [List.length_map]; omega
    rw [List.drop_eq_nil_of_le (by omega), show bestF kind true last [] i b = b from rfl]
    clear hb
    generalize bI b = bz at *
    generalize hpc : ps.map PlaceT.cells = pl at *
    refine loop_step hp ?_
    conv => lhs; whnf
    refine iteK_dec_f hend ?_
    conv => lhs; whnf
    refine Eq.trans (b := some (Fx.exit (2 : Nat), St.mk [((1 : Nat), AV.d (D.int IntKind.i64 kind)), ((2 : Nat), AV.ptr (Nm.slot (2 : Nat)) (0 : Nat)), ((5 : Nat), AV.own (Nm.slot (62 : Nat)) (0 : Nat) no), ((7 : Nat), AV.d (D.int IntKind.i64 bz))] [(Nm.slot (2 : Nat), AObj.cells [AV.d (D.str id), AV.d (D.list pl)]), (Nm.slot (62 : Nat), AObj.arr (9 : Nat) (1 : Nat) (0 : Nat) oD)])) (by kernel_rfl) ?_
    rfl
  | succ m ihm =>
    intro i z b lf st hi hle hz hb hlf hp
    obtain ⟨lf, rfl⟩ : ∃ n, lf = n + 1 := ⟨lf - 1, by omega⟩
    have hend : z < ((ps.map PlaceT.cells).length : Int) := by rw [List.length_map]; omega
    have hx : ps[i]? = some ps[i] := List.getElem?_eq_getElem (by omega)
    rw [List.drop_eq_getElem_cons (by omega)]
    generalize ps[i] = p at hx ⊢
    have hpg := place_get hx
    have hih := fun b hb lf st => ihm (i + 1) (IntKind.i64.wrap (z + 1)) b lf st (by omega) (by omega) (wrap_up hz (by omega)) hb
    have hAt : At ps (some (i, p.name)) := fun j x h => by
      injection h with h
      injection h with h1 h2
      exact ⟨p, by rw [← h1]; exact hx, h2⟩
    by_cases hk : p.kind = kind
    · have hke : (p.kind == kind) = true := by simpa using hk
      by_cases hl : last < p.name
      · have hsk : skipB kind true last p = false := skip_no.2 ⟨hk, fun _ => hl⟩
        have hlq := leq_f hl
        cases b with
        | none =>
          rw [best_first _ _ hsk]
          have hih := hih _ hAt
          generalize bestF kind true last (ps.drop (i + 1)) (i + 1) (some (i, p.name)) = q at *
          generalize hpc : ps.map PlaceT.cells = pl at *
          obtain ⟨kd, nm, nv, ar, ou⟩ := p
          dsimp only at *
          subst hk
          subst hz
          refine loop_step hp ?_
          conv => lhs; whnf
          refine iteK_dec_t hend ?_
          conv => lhs; whnf
          refine nextK_of (aop_ix rfl rfl rfl rfl (ixL_at' (n := i) rfl hpg rfl)) ?_
          conv => lhs; whnf
          refine iteK_bne (fun h1 => ?_) (fun h1 => ?_)
          · rw [bne_t h1]
            (exfalso; omega)
          · rw [bne_f h1]
            conv => lhs; whnf
            refine iteK_dec_t hno ?_
            conv => lhs; whnf
            refine iteK_dec_t hno ?_
            conv => lhs; whnf
            refine iteK_dec_t hno ?_
            conv => lhs; whnf
            refine iteK_dec_t hno ?_
            conv => lhs; whnf
            refine iteK_dec_t hno ?_
            conv => lhs; whnf
            refine iteK_f hlq ?_
            conv => lhs; whnf
            refine iteO_t (by kernel_rfl) ?_
            conv => lhs; whnf
            refine iteO_t (by kernel_rfl) ?_
            conv => lhs; whnf
            refine Eq.trans (hih lf _ (by omega) rfl) ?_
            rfl
        | some jx =>
          obtain ⟨bj, bx⟩ := jx
          obtain ⟨bp, hb1, hb2⟩ := hb bj bx rfl
          have hbg := place_get hb1
          rw [hb2] at hbg
          have hbz : ¬ (bj : Int) < 0 := by omega
          by_cases hlt : p.name < bx
          · rw [best_less _ _ hsk hlt]
            have hls := lss_t hlt
            have hih := hih _ hAt
            generalize bestF kind true last (ps.drop (i + 1)) (i + 1) (some (i, p.name)) = q at *
            generalize hpc : ps.map PlaceT.cells = pl at *
            obtain ⟨kd, nm, nv, ar, ou⟩ := p
            dsimp only at *
            subst hk
            subst hz
            refine loop_step hp ?_
            conv => lhs; whnf
            refine iteK_dec_t hend ?_
            conv => lhs; whnf
            refine nextK_of (aop_ix rfl rfl rfl rfl (ixL_at' (n := i) rfl hpg rfl)) ?_
            conv => lhs; whnf
            refine iteK_bne (fun h1 => ?_) (fun h1 => ?_)
            · rw [bne_t h1]
              (exfalso; omega)
            · rw [bne_f h1]
              conv => lhs; whnf
              refine iteK_dec_t hno ?_
              conv => lhs; whnf
              refine iteK_dec_t hno ?_
              conv => lhs; whnf
              refine iteK_dec_t hno ?_
              conv => lhs; whnf
              refine iteK_dec_t hno ?_
              conv => lhs; whnf
              refine iteK_dec_t hno ?_
              conv => lhs; whnf
              refine iteK_f hlq ?_
              conv => lhs; whnf
              refine iteO_t (by kernel_rfl) ?_
              conv => lhs; whnf
              refine nextK_of (aop_ix rfl rfl rfl rfl (ixL_at' (n := bj) rfl hbg rfl)) ?_
              conv => lhs; whnf
              refine iteO_t (by kernel_rfl) ?_
              conv => lhs; whnf
              refine iteK_t hls ?_
              conv => lhs; whnf
              refine Eq.trans (hih lf _ (by omega) rfl) ?_
              rfl
          · rw [best_keep _ _ hsk hlt]
            have hls := lss_f hlt
            have hih := hih _ hb
            generalize bestF kind true last (ps.drop (i + 1)) (i + 1) (some (bj, bx)) = q at *
            generalize hpc : ps.map PlaceT.cells = pl at *
            obtain ⟨kd, nm, nv, ar, ou⟩ := p
            dsimp only at *
            subst hk
            refine loop_step hp ?_
            conv => lhs; whnf
            refine iteK_dec_t hend ?_
            conv => lhs; whnf
            refine nextK_of (aop_ix rfl rfl rfl rfl (ixL_at' hz hpg rfl)) ?_
            conv => lhs; whnf
            refine iteK_bne (fun h1 => ?_) (fun h1 => ?_)
            · rw [bne_t h1]
              (exfalso; omega)
            · rw [bne_f h1]
              conv => lhs; whnf
              refine iteK_dec_t hno ?_
              conv => lhs; whnf
              refine iteK_dec_t hno ?_
              conv => lhs; whnf
              refine iteK_dec_t hno ?_
              conv => lhs; whnf
              refine iteK_dec_t hno ?_
              conv => lhs; whnf
              refine iteK_dec_t hno ?_
              conv => lhs; whnf
              refine iteK_f hlq ?_
              conv => lhs; whnf
              refine iteO_t (by kernel_rfl) ?_
              conv => lhs; whnf
              refine nextK_of (aop_ix rfl rfl rfl rfl (ixL_at' (n := bj) rfl hbg rfl)) ?_
              conv => lhs; whnf
              refine iteO_t (by kernel_rfl) ?_
              conv => lhs; whnf
              refine iteK_f hls ?_
              conv => lhs; whnf
              refine Eq.trans (hih lf _ (by omega) rfl) ?_
              rfl
      · have hsk : skipB kind true last p = true := by
          cases h : skipB kind true last p with
          | true => rfl
          | false => exact absurd ((skip_no.1 h).2 rfl) hl
        have hlq := leq_t hl
        rw [best_skip _ _ _ hsk]
        have hih := hih b hb
        generalize bestF kind true last (ps.drop (i + 1)) (i + 1) b = q at *
        generalize hpc : ps.map PlaceT.cells = pl at *
        obtain ⟨kd, nm, nv, ar, ou⟩ := p
        dsimp only at *
        subst hk
        refine loop_step hp ?_
        conv => lhs; whnf
        refine iteK_dec_t hend ?_
        conv => lhs; whnf
        refine nextK_of (aop_ix rfl rfl rfl rfl (ixL_at' hz hpg rfl)) ?_
        conv => lhs; whnf
        refine iteK_bne (fun h1 => ?_) (fun h1 => ?_)
        · rw [bne_t h1]
          (exfalso; omega)
        · rw [bne_f h1]
          conv => lhs; whnf
          refine iteK_dec_t hno ?_
          conv => lhs; whnf
          refine iteK_dec_t hno ?_
          conv => lhs; whnf
          refine iteK_dec_t hno ?_
          conv => lhs; whnf
          refine iteK_dec_t hno ?_
          conv => lhs; whnf
          refine iteK_dec_t hno ?_
          conv => lhs; whnf
          refine iteK_t hlq ?_
          conv => lhs; whnf
          refine Eq.trans (hih lf _ (by omega) rfl) ?_
          rfl
    · have hsk : skipB kind true last p = true := by
        cases h : skipB kind true last p with
        | true => rfl
        | false => exact absurd (skip_no.1 h).1 hk
      rw [best_skip _ _ _ hsk]
      have hih := hih b hb
      generalize bestF kind true last (ps.drop (i + 1)) (i + 1) b = q at *
      generalize hpc : ps.map PlaceT.cells = pl at *
      obtain ⟨kd, nm, nv, ar, ou⟩ := p
      dsimp only at *
      refine loop_step hp ?_
      conv => lhs; whnf
      refine iteK_dec_t hend ?_
      conv => lhs; whnf
      refine nextK_of (aop_ix rfl rfl rfl rfl (ixL_at' hz hpg rfl)) ?_
      conv => lhs; whnf
      refine iteK_bne_t hk ?_
      conv => lhs; whnf
      refine iteK_bne_t hk ?_
      conv => lhs; whnf
      refine iteK_bne_t hk ?_
      conv => lhs; whnf
      refine iteK_bne_t hk ?_
      conv => lhs; whnf
      refine iteK_bne_t hk ?_
      conv => lhs; whnf
      refine iteK_bne_t hk ?_
      conv => lhs; whnf
      refine Eq.trans (hih lf _ (by omega) rfl) ?_
      rfl
abbrev ndF (kind : Int) (oA : AV) (last : Tx) : List (Nat × AV) := [(1, .d (.int .i64 kind)), (2, .ptr (.slot 2) 0), (5, oA), (6, .d (.str last))]
theorem ndOwn (id : List UInt8) (ps : List PlaceT) (hps : ps.length ≤ 5000) (kind : Int) (j : Nat) (hj : ps.length < j) {lp : LP} (hlp : lp = lpOf Try.prog cfg (icall Try.prog cfg j) Try.f16.ntmps 16 j (([] : Hp).map (·.1))) :
    ∀ (q out : List Tx) (no : Nat) (oD : List (List D)) (lf : Nat) (st : St), uniq (namesOf kind ps) = out ++ q → out ≠ [] → no = out.length → oD = sL out → q.length < lf → prune [] [1, 2, 5, 6] st = some ⟨ndF kind (.own (.slot 62) 0 no) (lastT out), bsH id (ps.map PlaceT.cells) [arrS (.slot 62) 0 oD]⟩ →
      loopK Try.prog cfg (icall Try.prog cfg j) lp Try.f16.ntmps 16 [] (bodyAt Try.f16 3) lf st (exitP [] (some [5])) = some (.exit 0, ⟨[(5, .own (.slot 62) 0 (out ++ q).length)], [arrS (.slot 62) 0 (sL (out ++ q))]⟩) := by
  intro q
  induction q with
  | nil =>
    intro out no oD lf st hu ho h2 h3 hlf hp
    obtain ⟨lf, rfl⟩ : ∃ n, lf = n + 1 := ⟨lf - 1, by omega⟩
    have hol : 0 < out.length := List.length_pos_iff.2 ho
    have hb := (best_step hu).1 rfl
    rw [decide_eq_true hol] at hb
    have hin := fun lf st => bsOwn id ps hps kind (lastT out) no oD (by rw [h2, h3, sL_full, sL_len]; omega) j hlp ps.length 0 0 none lf st rfl (Nat.zero_le _) rfl (fun j x h => by cases h)
    rw [List.drop_zero, hb] at hin
    rw [List.append_nil]
    subst h2; subst h3
    generalize lastT out = last at *
    generalize hpc : ps.map PlaceT.cells = pl at *
    refine loop_step hp ?_
    conv => lhs; whnf
    refine nextK_of (loop_at hlp (hin j _ hj rfl)) ?_
    conv => lhs; whnf
    refine Eq.trans (b := some (Fx.exit (0 : Nat), St.mk [((5 : Nat), AV.own (Nm.slot (62 : Nat)) (0 : Nat) (List.length out))] [(Nm.slot (62 : Nat), AObj.arr (9 : Nat) (1 : Nat) (0 : Nat) (List.map (fun s => [D.str s]) out))])) (by kernel_rfl) ?_
    rfl
  | cons x q ih =>
    intro out no oD lf st hu ho h2 h3 hlf hp
    simp only [List.length_cons] at hlf
    obtain ⟨lf, rfl⟩ : ∃ n, lf = n + 1 := ⟨lf - 1, by omega⟩
    have hol : 0 < out.length := List.length_pos_iff.2 ho
    have hul : out.length ≤ 5000 := by
      have h1 := uniq_len (namesOf kind ps)
      have h4 := namesOf_len kind ps
      rw [hu, List.length_append] at h1; omega
    obtain ⟨bj, bp, hb, hb1, hb2⟩ := (best_step hu).2 x q rfl
    rw [decide_eq_true hol] at hb
    have hin := fun lf st => bsOwn id ps hps kind (lastT out) no oD (by rw [h2, h3, sL_full, sL_len]; omega) j hlp ps.length 0 0 none lf st rfl (Nat.zero_le _) rfl (fun j x h => by cases h)
    rw [List.drop_zero, hb] at hin
    have hbg := place_get hb1
    rw [hb2] at hbg
    have hbz : ¬ (bj : Int) < 0 := by omega
    have hih := fun lf st => ih (out ++ [x]) (no + [[D.str x]].length) (oD.take no ++ [[D.str x]]) lf st (by rw [hu]; simp) (by simp) (by rw [h2, List.length_append]; rfl) (by rw [h3, h2, sL_app1])
    rw [lastT_app] at hih
    rw [List.append_assoc, List.singleton_append] at hih
    generalize out ++ x :: q = Q at *
    generalize lastT out = last at *
    have hno : no ≤ 5000 := by omega
    generalize hpc : ps.map PlaceT.cells = pl at *
    refine loop_step hp ?_
    conv => lhs; whnf
    refine nextK_of (loop_at hlp (hin j _ hj rfl)) ?_
    conv => lhs; whnf
    refine nextK_of (aop_ix rfl rfl rfl rfl (ixL_at' (n := bj) rfl hbg rfl)) ?_
    conv => lhs; whnf
    refine nextK_of (aop_app rfl rfl rfl rfl rfl rfl rfl rfl rfl rfl rfl rfl (lenS1 (by omega))) ?_
    conv => lhs; whnf
    refine Eq.trans (hih lf _ (by omega) rfl) ?_
    rfl
def ndY : List Tx → Option (Fx × St)
  | [] => some (.exit 0, ⟨[(5, .nilsl)], []⟩)
  | x :: r => some (.exit 0, ⟨[(5, .own (.slot 62) 0 (x :: r).length)], [arrS (.slot 62) 0 (sL (x :: r))]⟩)
theorem ndNil (id : List UInt8) (ps : List PlaceT) (hps : ps.length ≤ 5000) (kind : Int) (j : Nat) (hj : ps.length + 1 < j) {lp : LP} (hlp : lp = lpOf Try.prog cfg (icall Try.prog cfg j) Try.f16.ntmps 16 j (([] : Hp).map (·.1))) (q : List Tx) (lf : Nat) (st : St) (hu : uniq (namesOf kind ps) = q) (hlf : q.length < lf)
    (hp : prune [] [1, 2, 5, 6] st = some ⟨ndF kind .nilsl [], bsH id (ps.map PlaceT.cells) []⟩) :
      loopK Try.prog cfg (icall Try.prog cfg j) lp Try.f16.ntmps 16 [] (bodyAt Try.f16 3) lf st (exitP [] (some [5])) = ndY q := by
  obtain ⟨lf, rfl⟩ : ∃ n, lf = n + 1 := ⟨lf - 1, by omega⟩
  have hu0 : uniq (namesOf kind ps) = [] ++ q := hu
  have hin := fun lf st => bsNil id ps hps kind [] j hlp ps.length 0 0 none lf st rfl (Nat.zero_le _) rfl (fun j x h => by cases h)
  rw [List.drop_zero] at hin
  have hj2 : ps.length < j := by omega
  cases q with
  | nil =>
    have hb := (best_step hu0).1 rfl
    rw [show decide (0 < ([] : List Tx).length) = false from rfl, show lastT [] = [] from rfl] at hb
    rw [hb] at hin
    generalize hpc : ps.map PlaceT.cells = pl at *
    refine loop_step hp ?_
    conv => lhs; whnf
    refine nextK_of (loop_at hlp (hin j _ hj2 rfl)) ?_
    conv => lhs; whnf
    refine Eq.trans (b := some (Fx.exit (0 : Nat), St.mk [((5 : Nat), AV.nilsl)] [])) (by kernel_rfl) ?_
    rfl
  | cons x q =>
    simp only [List.length_cons] at hlf
    obtain ⟨bj, bp, hb, hb1, hb2⟩ := (best_step hu0).2 x q rfl
    rw [show decide (0 < ([] : List Tx).length) = false from rfl, show lastT [] = [] from rfl] at hb
    rw [hb] at hin
    have hbg := place_get hb1
    rw [hb2] at hbg
    have hbz : ¬ (bj : Int) < 0 := by omega
    have hih := fun lf st => ndOwn id ps hps kind j hj2 hlp q [x] 1 [[D.str x]] lf st hu (by simp) rfl rfl
    rw [show lastT [x] = x from rfl, List.singleton_append] at hih
    rw [show ndY (x :: q) = some (.exit 0, ⟨[(5, .own (.slot 62) 0 (x :: q).length)], [arrS (.slot 62) 0 (sL (x :: q))]⟩) from rfl]
    generalize x :: q = Q at *
    generalize hpc : ps.map PlaceT.cells = pl at *
    refine loop_step hp ?_
    conv => lhs; whnf
    refine nextK_of (loop_at hlp (hin j _ hj2 rfl)) ?_
    conv => lhs; whnf
    refine nextK_of (aop_ix rfl rfl rfl rfl (ixL_at' (n := bj) rfl hbg rfl)) ?_
    conv => lhs; whnf
    refine Eq.trans (hih lf _ (by omega) rfl) ?_
    rfl
theorem named16 (id : List UInt8) (ps : List PlaceT) (hps : ps.length ≤ 5000) (kind : Int) (k : Nat) (hk : 5100 ≤ k) : icall Try.prog cfg k 16 [.agg [.d (.str id), .d (.list (ps.map PlaceT.cells))], .d (.int .i64 kind)] [] = some (.ret (.d (.list (sL (uniq (namesOf kind ps))))), []) := by
  obtain ⟨k, rfl⟩ : ∃ j, k = j + 1 := ⟨k - 1, by omega⟩
  have hul : (uniq (namesOf kind ps)).length < k := by
    have h1 := uniq_len (namesOf kind ps)
    have h4 := namesOf_len kind ps
    omega
  have hL := fun lf st => ndNil id ps hps kind k (by omega) rfl (uniq (namesOf kind ps)) lf st rfl
  generalize uniq (namesOf kind ps) = q at *
  cases q with
  | nil =>
    simp only [ndY] at hL
    generalize hpc : ps.map PlaceT.cells = pl at *
    rw [icall_body rfl Try.func16]
    obtain ⟨lp, hlp⟩ : ∃ lp, lp = lpOf Try.prog cfg (icall Try.prog cfg k) Try.f16.ntmps 16 k (([] : Hp).map (·.1)) := ⟨_, rfl⟩
    rw [← hlp]
    rw [← (show lp = lpOf Try.prog cfg (icall Try.prog cfg k) Try.f16.ntmps 16 k (([] : Hp).map (·.1)) from hlp)] at hL
    conv => lhs; whnf
    refine nextK_of (loop_at hlp (hL k _ hul rfl)) ?_
    conv => lhs; whnf
    refine Eq.trans (b := some (Res.ret (AV.d (D.list [])), [])) (by kernel_rfl) ?_
    rfl
  | cons x r =>
    simp only [ndY] at hL
    have ht := sL_full (x :: r)
    generalize x :: r = L at *
    generalize hpc : ps.map PlaceT.cells = pl at *
    rw [icall_body rfl Try.func16]
    obtain ⟨lp, hlp⟩ : ∃ lp, lp = lpOf Try.prog cfg (icall Try.prog cfg k) Try.f16.ntmps 16 k (([] : Hp).map (·.1)) := ⟨_, rfl⟩
    rw [← hlp]
    rw [← (show lp = lpOf Try.prog cfg (icall Try.prog cfg k) Try.f16.ntmps 16 k (([] : Hp).map (·.1)) from hlp)] at hL
    conv => lhs; whnf
    refine nextK_of (loop_at hlp (hL k _ hul rfl)) ?_
    conv => lhs; whnf
    refine Eq.trans (b := some (Res.ret (AV.d (D.list (List.take (List.length L) (List.map (fun s => [D.str s]) L)))), [])) (by kernel_rfl) ?_
    (exact congrArg (fun x => some (Res.ret (AV.d (D.list x)), ([] : Hp))) ht)
end Go.Rx12
