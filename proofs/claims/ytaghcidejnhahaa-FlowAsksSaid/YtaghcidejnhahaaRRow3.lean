/- A part of the proof of the law: what functions of the program come to, walked by Rx, or plain facts on it. -/
import Derived.Test.YtaghcidejnhahaaRRow2
open Go Go.Rx Go.Proofs Go.Rx12 Go.RxTree
set_option maxRecDepth 1000000
set_option maxHeartbeats 4000000
set_option linter.unusedVariables false
set_option linter.unusedSimpArgs false
namespace Go.Rx12
abbrev rwEx (n : Nat) (w : Rw) : Option (Fx × St) := some (.exit 0, ⟨[(2, .undef), (3, .undef), (4, .undef), (5, .own (.slot 19) 0 n), (6, .own (.slot 23) 0 n)], [(.slot 19, .arr 61 2 0 (rC w.rows)), (.slot 23, .arr 3 1 0 (iC w.joins))]⟩)
abbrev rwRt (n : Nat) (w : Rw) (e : Int) : Option (Fx × St) := some (.ret, ⟨[(2, .own (.slot 19) 0 n), (3, .own (.slot 23) 0 n), (4, .d (.int .i64 e)), (5, .own (.slot 19) 0 n), (6, .own (.slot 23) 0 n)], [(.slot 19, .arr 61 2 0 (rC w.rows)), (.slot 23, .arr 3 1 0 (iC w.joins))]⟩)
theorem rowsL (id : List UInt8) (ps : List PlaceT) (n : Nat) (hps : ps.length = n) (hn : n ≤ 4096) (hO : ∀ p ∈ ps, outsOk p.out n ∧ p.out.length ≤ 16) (j : Nat) (hj : 100200 < j) {lp : LP} (hlp : lp = lpOf Try.prog cfg (icall Try.prog cfg j) Try.f23.ntmps 23 j (([] : Hp).map (·.1))) :
    ∀ (m i : Nat) (z : Int) (w : Rw) (no : Nat) (rs js od : List (List D)) (lf : Nat) (st : St), n - i = m → i ≤ n → z = (i : Int) → RwOk n w → no = w.order.length → rs = rC w.rows → js = iC w.joins → od = iC w.order → m < lf →
      prune [] [1, 5, 6, 7, 8] st = some (rwSt id (ps.map PlaceT.cells) n rs js no od z) →
      loopK Try.prog cfg (icall Try.prog cfg j) lp Try.f23.ntmps 23 [] (bodyAt Try.f23 6) lf st (exitP [] (some [2, 3, 4, 5, 6])) =
        iteK ((rowsS ps m i w).2 == 0) (rwEx n (rowsS ps m i w).1) (rwRt n (rowsS ps m i w).1 (rowsS ps m i w).2) := by
  intro m
  induction m with
  | zero =>
    intro i z w no rs js od lf st hi hle hz hk hno hrs hjs hod hlf hpr
    obtain ⟨lf, rfl⟩ : ∃ n, lf = n + 1 := ⟨lf - 1, by omega⟩
    have hol : w.order.length ≤ i := by have := hk.mu; unfold Rw.mu at this; omega
    rw [rowsS_end hol]
    have hend : ¬ z < (((iC w.order).take w.order.length).length : Int) := by rw [iC_full, iC_len]; omega
    subst hno; subst hrs; subst hjs; subst hod
    generalize hpc : ps.map PlaceT.cells = pl at *
    refine loop_step hpr ?_
    conv => lhs; whnf
    refine iteK_dec_f hend ?_
    conv => lhs; whnf
    refine Eq.trans (b := some (Fx.exit (0 : Nat), St.mk [((2 : Nat), AV.undef), ((3 : Nat), AV.undef), ((4 : Nat), AV.undef), ((5 : Nat), AV.own (Nm.slot (19 : Nat)) (0 : Nat) n), ((6 : Nat), AV.own (Nm.slot (23 : Nat)) (0 : Nat) n)] [(Nm.slot (19 : Nat), AObj.arr (61 : Nat) (2 : Nat) (0 : Nat) (rC w.rows)), (Nm.slot (23 : Nat), AObj.arr (3 : Nat) (1 : Nat) (0 : Nat) (iC w.joins))])) (by kernel_rfl) ?_
    rfl
  | succ m ihm =>
    intro i z w no rs js od lf st hi hle hz hk hno hrs hjs hod hlf hpr
    obtain ⟨lf, rfl⟩ : ∃ n, lf = n + 1 := ⟨lf - 1, by omega⟩
    have hno2 : no ≤ n := by have := hk.mu; unfold Rw.mu at this; omega
    by_cases hol : w.order.length ≤ i
    · rw [rowsS_end hol]
      have hend : ¬ z < (((iC w.order).take w.order.length).length : Int) := by rw [iC_full, iC_len]; omega
      subst hno; subst hrs; subst hjs; subst hod
      generalize hpc : ps.map PlaceT.cells = pl at *
      refine loop_step hpr ?_
      conv => lhs; whnf
      refine iteK_dec_f hend ?_
      conv => lhs; whnf
      refine Eq.trans (b := some (Fx.exit (0 : Nat), St.mk [((2 : Nat), AV.undef), ((3 : Nat), AV.undef), ((4 : Nat), AV.undef), ((5 : Nat), AV.own (Nm.slot (19 : Nat)) (0 : Nat) n), ((6 : Nat), AV.own (Nm.slot (23 : Nat)) (0 : Nat) n)] [(Nm.slot (19 : Nat), AObj.arr (61 : Nat) (2 : Nat) (0 : Nat) (rC w.rows)), (Nm.slot (23 : Nat), AObj.arr (3 : Nat) (1 : Nat) (0 : Nat) (iC w.joins))])) (by kernel_rfl) ?_
      rfl
    · have hend : z < ((od.take no).length : Int) := by rw [hod, hno, iC_full, iC_len]; omega
      have hoi := getI_some (l := w.order) (i := i) (by omega)
      have hb := hk.ord _ (List.mem_of_getElem? hoi)
      obtain ⟨a, ha⟩ : ∃ a : Nat, getI w.order i = (a : Int) := ⟨(getI w.order i).toNat, by omega⟩
      rw [ha] at hoi hb
      have han : a < n := by omega
      have hp : ps[a]? = some ps[a] := List.getElem?_eq_getElem (by omega)
      generalize ps[a] = p at hp
      obtain ⟨ho, hlo⟩ := hO p (List.mem_of_getElem? hp)
      have hoD : od[i]? = some [.int .i64 (a : Int)] := by rw [hod]; exact iC_get hoi
      have hrt := getR_some (l := w.rows) (i := a) (by rw [hk.len.1]; exact han)
      generalize getR w.rows a = bf at hrt
      obtain ⟨b, fs⟩ := bf
      have hfk := hk.fks _ (List.mem_of_getElem? hrt)
      dsimp only at hfk
      have hnx := after_mem (k := p.kind) (a := a) (n := n) (by omega) hfk.2
      have hnl := after_len p.kind a fs
      have hrow := rowS_ok hk han ho
      have hca := after37 id ps a p hp fs (by omega) j (by omega)
      have hrb := rC_get hrt
      rw [← hrs] at hrb
      have hmx : 10000 ≤ maxLen := by decide
      have hpg := place_get hp
      have hE := @rowsS_err ps m i a w p hoi hp
      have hG := @rowsS_go ps m i a w p hoi hp
      cases ha2 : (afterS p.kind a fs).2 with
      | false =>
        rw [hE (by rw [rowT_no hrt ha2]; show ¬ ((8 : Int) = 0); decide), rowT_no hrt ha2]
        rw [ha2] at hca
        clear hE hG hrow hnx hnl
        generalize (afterS p.kind a fs).1 = nx at *
        subst hno; subst hrs; subst hjs; subst hod
        generalize hpc : ps.map PlaceT.cells = pl at *
        refine loop_step hpr ?_
        conv => lhs; whnf
        refine iteK_dec_t hend ?_
        conv => lhs; whnf
        refine nextK_of (aop_ixO (i := i) rfl rfl rfl rfl rfl hz (by omega)) ?_
        conv => lhs; whnf
        refine nextK_of (aop_ldE1 rfl rfl hoD rfl rfl rfl) ?_
        conv => lhs; whnf
        refine nextK_of (aop_ixO (i := a) rfl rfl rfl rfl rfl rfl (by omega)) ?_
        conv => lhs; whnf
        refine nextK_of (aop_ldE1 rfl rfl hrb rfl rfl rfl) ?_
        conv => lhs; whnf
        refine nextK_of hca ?_
        conv => lhs; whnf
        refine Eq.trans (b := some (Fx.ret, St.mk [((2 : Nat), AV.own (Nm.slot (19 : Nat)) (0 : Nat) n), ((3 : Nat), AV.own (Nm.slot (23 : Nat)) (0 : Nat) n), ((4 : Nat), AV.d (D.int IntKind.i64 (8 : Int))), ((5 : Nat), AV.own (Nm.slot (19 : Nat)) (0 : Nat) n), ((6 : Nat), AV.own (Nm.slot (23 : Nat)) (0 : Nat) n)] [(Nm.slot (19 : Nat), AObj.arr (61 : Nat) (2 : Nat) (0 : Nat) (rC w.rows)), (Nm.slot (23 : Nat), AObj.arr (3 : Nat) (1 : Nat) (0 : Nat) (iC w.joins))])) (by kernel_rfl) ?_
        rfl
      | true =>
        rw [ha2] at hca
        by_cases h5 : p.kind = 5
        · have hl0 : fs.length ≠ 0 := after_5 (a := a) (by rw [← h5]; exact ha2)
          have hlast := getI_some (l := fs) (i := fs.length - 1) (by omega)
          have hfb := hfk.2 _ (List.mem_of_getElem? hlast)
          obtain ⟨f, hf⟩ : ∃ f : Nat, getI fs (fs.length - 1) = (f : Int) := ⟨(getI fs (fs.length - 1)).toNat, by omega⟩
          rw [hf] at hlast hfb
          have hlD := iC_get hlast
          have hw1 : IntKind.i64.wrap (((iC fs).length : Int) - 1) = ((fs.length - 1 : Nat) : Int) := by rw [iC_len, wrap_i64 (by omega) (by omega)]; omega
          have hjo := getI_some (l := w.joins) (i := f) (by rw [hk.len.2]; omega)
          have hjD := iC_get hjo
          rw [← hjs] at hjD
          by_cases h8 : getI w.joins f = 0 ∨ getI w.joins f = (a : Int)
          · have hR := rowT_j hrt ha2 h5 hf h8
            have hlen' : (rowK w f a).Len n := (rowK_ok hk f a).len
            have hmu' : (rowK w f a).mu ≤ n := (rowK_ok hk f a).mu
            have hin := fun lf st => rowL id ps n hps hn z a (afterS p.kind a fs).1 (by omega) han p hp ho (by omega) j (by omega) hlp p.out.length 0 0 (rowK w f a) no rs (js.set f [.int .i64 (a : Int)]) od lf st rfl (Nat.zero_le _) rfl hlen' hmu' (fun r hr => by have := (hk.fks r hr).1; omega) hno hrs (by rw [hjs, iC_set]; rfl) hod
            rw [List.drop_zero] at hin
            rw [hR] at hE hG hrow
            clear hR
            generalize rowO p.out (afterS p.kind a fs).1 (rowK w f a) = q at *
            generalize (afterS p.kind a fs).1 = nx at *
            obtain ⟨w2, e2⟩ := q
            dsimp only at *
            by_cases he : e2 = 0
            · rw [hG he]
              subst he
              have hih := fun lf st => ihm (i + 1) (IntKind.i64.wrap (z + 1)) w2 w2.order.length (rC w2.rows) (iC w2.joins) (iC w2.order) lf st (by omega) (by omega) (wrap_up hz (by omega)) hrow rfl rfl rfl rfl
              clear hE hG hrow hnx hnl
              generalize rowsS ps m (i + 1) w2 = q2 at *
              rw [show (((0 : Int) == 0) = true) from rfl] at hin
              generalize hpc : ps.map PlaceT.cells = pl at *
              obtain ⟨kd, nm, nv, ar, ou⟩ := p
              dsimp only at h5 hpg hlo hin; subst h5; generalize getI w.joins f = J at *
              refine loop_step hpr ?_
              conv => lhs; whnf
              refine iteK_dec_t hend ?_
              conv => lhs; whnf
              refine nextK_of (aop_ixO (i := i) rfl rfl rfl rfl rfl hz (by omega)) ?_
              conv => lhs; whnf
              refine nextK_of (aop_ldE1 rfl rfl hoD rfl rfl rfl) ?_
              conv => lhs; whnf
              refine nextK_of (aop_ixO (i := a) rfl rfl rfl rfl rfl rfl (by omega)) ?_
              conv => lhs; whnf
              refine nextK_of (aop_ldE1 rfl rfl hrb rfl rfl rfl) ?_
              conv => lhs; whnf
              refine nextK_of hca ?_
              conv => lhs; whnf
              refine nextK_of (aop_ix rfl rfl rfl rfl (ixL_at' (n := a) rfl hpg rfl)) ?_
              conv => lhs; whnf
              refine nextK_of (aop_ix rfl rfl rfl rfl (ixL_at' hw1 hlD rfl)) ?_
              conv => lhs; whnf
              refine nextK_of (aop_ixO (i := f) rfl rfl rfl rfl rfl rfl (by omega)) ?_
              conv => lhs; whnf
              refine nextK_of (aop_ldE1 rfl rfl hjD rfl rfl rfl) ?_
              conv => lhs; whnf
              refine iteK_bne (fun h1 => ?_) (fun h1 => ?_)
              · rw [bne_t h1]
                conv => lhs; whnf
                refine nextK_of (aop_ixO (i := f) rfl rfl rfl rfl rfl rfl (by omega)) ?_
                conv => lhs; whnf
                refine nextK_of (aop_ldE1 rfl rfl hjD rfl rfl rfl) ?_
                conv => lhs; whnf
                refine iteK_bne (fun h2 => ?_) (fun h2 => ?_)
                · rw [bne_t h2]
                  (exfalso; omega)
                · rw [bne_f h2]
                  conv => lhs; whnf
                  refine nextK_of (aop_ixO (i := f) rfl rfl rfl rfl rfl rfl (by omega)) ?_
                  conv => lhs; whnf
                  refine nextK_of (aop_stE rfl rfl rfl rfl rfl hjD rfl) ?_
                  conv => lhs; whnf
                  refine nextK_ite (loop_at hlp (hin j _ (by omega) rfl)) ?_
                  conv => lhs; whnf
                  refine Eq.trans (hih lf _ (by omega) rfl) ?_
                  rfl
              · obtain rfl : J = (0 : Int) := h1
                conv => lhs; whnf
                refine nextK_of (aop_ixO (i := f) rfl rfl rfl rfl rfl rfl (by omega)) ?_
                conv => lhs; whnf
                refine nextK_of (aop_stE rfl rfl rfl rfl rfl hjD rfl) ?_
                conv => lhs; whnf
                refine nextK_ite (loop_at hlp (hin j _ (by omega) rfl)) ?_
                conv => lhs; whnf
                refine Eq.trans (hih lf _ (by omega) rfl) ?_
                rfl
            · rw [hE he]
              clear hE hG hrow hnx hnl
              rw [show (e2 == 0) = false by simpa using he] at hin
              generalize hpc : ps.map PlaceT.cells = pl at *
              obtain ⟨kd, nm, nv, ar, ou⟩ := p
              dsimp only at h5 hpg hlo hin; subst h5; generalize getI w.joins f = J at *
              refine loop_step hpr ?_
              conv => lhs; whnf
              refine iteK_dec_t hend ?_
              conv => lhs; whnf
              refine nextK_of (aop_ixO (i := i) rfl rfl rfl rfl rfl hz (by omega)) ?_
              conv => lhs; whnf
              refine nextK_of (aop_ldE1 rfl rfl hoD rfl rfl rfl) ?_
              conv => lhs; whnf
              refine nextK_of (aop_ixO (i := a) rfl rfl rfl rfl rfl rfl (by omega)) ?_
              conv => lhs; whnf
              refine nextK_of (aop_ldE1 rfl rfl hrb rfl rfl rfl) ?_
              conv => lhs; whnf
              refine nextK_of hca ?_
              conv => lhs; whnf
              refine nextK_of (aop_ix rfl rfl rfl rfl (ixL_at' (n := a) rfl hpg rfl)) ?_
              conv => lhs; whnf
              refine nextK_of (aop_ix rfl rfl rfl rfl (ixL_at' hw1 hlD rfl)) ?_
              conv => lhs; whnf
              refine nextK_of (aop_ixO (i := f) rfl rfl rfl rfl rfl rfl (by omega)) ?_
              conv => lhs; whnf
              refine nextK_of (aop_ldE1 rfl rfl hjD rfl rfl rfl) ?_
              conv => lhs; whnf
              refine iteK_bne (fun h1 => ?_) (fun h1 => ?_)
              · rw [bne_t h1]
                conv => lhs; whnf
                refine nextK_of (aop_ixO (i := f) rfl rfl rfl rfl rfl rfl (by omega)) ?_
                conv => lhs; whnf
                refine nextK_of (aop_ldE1 rfl rfl hjD rfl rfl rfl) ?_
                conv => lhs; whnf
                refine iteK_bne (fun h2 => ?_) (fun h2 => ?_)
                · rw [bne_t h2]
                  (exfalso; omega)
                · rw [bne_f h2]
                  conv => lhs; whnf
                  refine nextK_of (aop_ixO (i := f) rfl rfl rfl rfl rfl rfl (by omega)) ?_
                  conv => lhs; whnf
                  refine nextK_of (aop_stE rfl rfl rfl rfl rfl hjD rfl) ?_
                  conv => lhs; whnf
                  refine nextK_ite (loop_at hlp (hin j _ (by omega) rfl)) ?_
                  conv => lhs; whnf
                  refine Eq.trans (b := some (Fx.ret, St.mk [((2 : Nat), AV.own (Nm.slot (19 : Nat)) (0 : Nat) n), ((3 : Nat), AV.own (Nm.slot (23 : Nat)) (0 : Nat) n), ((4 : Nat), AV.d (D.int IntKind.i64 e2)), ((5 : Nat), AV.own (Nm.slot (19 : Nat)) (0 : Nat) n), ((6 : Nat), AV.own (Nm.slot (23 : Nat)) (0 : Nat) n)] [(Nm.slot (19 : Nat), AObj.arr (61 : Nat) (2 : Nat) (0 : Nat) (rC w2.rows)), (Nm.slot (23 : Nat), AObj.arr (3 : Nat) (1 : Nat) (0 : Nat) (iC w2.joins))])) (by kernel_rfl) ?_
                  (rw [show (e2 == 0) = false by simpa using he]; rfl)
              · obtain rfl : J = (0 : Int) := h1
                conv => lhs; whnf
                refine nextK_of (aop_ixO (i := f) rfl rfl rfl rfl rfl rfl (by omega)) ?_
                conv => lhs; whnf
                refine nextK_of (aop_stE rfl rfl rfl rfl rfl hjD rfl) ?_
                conv => lhs; whnf
                refine nextK_ite (loop_at hlp (hin j _ (by omega) rfl)) ?_
                conv => lhs; whnf
                refine Eq.trans (b := some (Fx.ret, St.mk [((2 : Nat), AV.own (Nm.slot (19 : Nat)) (0 : Nat) n), ((3 : Nat), AV.own (Nm.slot (23 : Nat)) (0 : Nat) n), ((4 : Nat), AV.d (D.int IntKind.i64 e2)), ((5 : Nat), AV.own (Nm.slot (19 : Nat)) (0 : Nat) n), ((6 : Nat), AV.own (Nm.slot (23 : Nat)) (0 : Nat) n)] [(Nm.slot (19 : Nat), AObj.arr (61 : Nat) (2 : Nat) (0 : Nat) (rC w2.rows)), (Nm.slot (23 : Nat), AObj.arr (3 : Nat) (1 : Nat) (0 : Nat) (iC w2.joins))])) (by kernel_rfl) ?_
                (rw [show (e2 == 0) = false by simpa using he]; rfl)
          · have hR := rowT_8 hrt ha2 h5 hf (by omega) (by omega)
            have h81 : getI w.joins f ≠ 0 := by omega
            have h82 : getI w.joins f ≠ (a : Int) := by omega
            rw [hE (by rw [hR]; show ¬ ((8 : Int) = 0); decide), hR]
            clear hE hG hrow hnx hnl hR
            generalize (afterS p.kind a fs).1 = nx at *
            generalize getI w.joins f = J at *
            subst hno; subst hrs; subst hjs; subst hod
            generalize hpc : ps.map PlaceT.cells = pl at *
            obtain ⟨kd, nm, nv, ar, ou⟩ := p
            dsimp only at h5 hpg; subst h5
            refine loop_step hpr ?_
            conv => lhs; whnf
            refine iteK_dec_t hend ?_
            conv => lhs; whnf
            refine nextK_of (aop_ixO (i := i) rfl rfl rfl rfl rfl hz (by omega)) ?_
            conv => lhs; whnf
            refine nextK_of (aop_ldE1 rfl rfl hoD rfl rfl rfl) ?_
            conv => lhs; whnf
            refine nextK_of (aop_ixO (i := a) rfl rfl rfl rfl rfl rfl (by omega)) ?_
            conv => lhs; whnf
            refine nextK_of (aop_ldE1 rfl rfl hrb rfl rfl rfl) ?_
            conv => lhs; whnf
            refine nextK_of hca ?_
            conv => lhs; whnf
            refine nextK_of (aop_ix rfl rfl rfl rfl (ixL_at' (n := a) rfl hpg rfl)) ?_
            conv => lhs; whnf
            refine nextK_of (aop_ix rfl rfl rfl rfl (ixL_at' hw1 hlD rfl)) ?_
            conv => lhs; whnf
            refine nextK_of (aop_ixO (i := f) rfl rfl rfl rfl rfl rfl (by omega)) ?_
            conv => lhs; whnf
            refine nextK_of (aop_ldE1 rfl rfl hjD rfl rfl rfl) ?_
            conv => lhs; whnf
            refine iteK_bne_t h81 ?_
            conv => lhs; whnf
            refine iteK_bne_t h81 ?_
            conv => lhs; whnf
            refine iteK_bne_t h81 ?_
            conv => lhs; whnf
            refine nextK_of (aop_ixO (i := f) rfl rfl rfl rfl rfl rfl (by omega)) ?_
            conv => lhs; whnf
            refine iteK_bne_t h81 ?_
            conv => lhs; whnf
            refine nextK_of (aop_ldE1 rfl rfl hjD rfl rfl rfl) ?_
            conv => lhs; whnf
            refine iteK_bne_t h81 ?_
            conv => lhs; whnf
            refine iteK_bne_t h81 ?_
            conv => lhs; whnf
            refine iteK_bne_t h81 ?_
            conv => lhs; whnf
            refine iteK_bne_t h82 ?_
            conv => lhs; whnf
            refine Eq.trans (b := some (Fx.ret, St.mk [((2 : Nat), AV.own (Nm.slot (19 : Nat)) (0 : Nat) n), ((3 : Nat), AV.own (Nm.slot (23 : Nat)) (0 : Nat) n), ((4 : Nat), AV.d (D.int IntKind.i64 (8 : Int))), ((5 : Nat), AV.own (Nm.slot (19 : Nat)) (0 : Nat) n), ((6 : Nat), AV.own (Nm.slot (23 : Nat)) (0 : Nat) n)] [(Nm.slot (19 : Nat), AObj.arr (61 : Nat) (2 : Nat) (0 : Nat) (rC w.rows)), (Nm.slot (23 : Nat), AObj.arr (3 : Nat) (1 : Nat) (0 : Nat) (iC w.joins))])) (by kernel_rfl) ?_
            rfl
        · have hR := rowT_o hrt ha2 h5
          have hlen' : (w).Len n := hk.len
          have hmu' : (w).mu ≤ n := hk.mu
          have hin := fun lf st => rowL id ps n hps hn z a (afterS p.kind a fs).1 (by omega) han p hp ho (by omega) j (by omega) hlp p.out.length 0 0 (w) no rs js od lf st rfl (Nat.zero_le _) rfl hlen' hmu' (fun r hr => by have := (hk.fks r hr).1; omega) hno hrs hjs hod
          rw [List.drop_zero] at hin
          rw [hR] at hE hG hrow
          clear hR
          generalize rowO p.out (afterS p.kind a fs).1 (w) = q at *
          generalize (afterS p.kind a fs).1 = nx at *
          obtain ⟨w2, e2⟩ := q
          dsimp only at *
          by_cases he : e2 = 0
          · rw [hG he]
            subst he
            have hih := fun lf st => ihm (i + 1) (IntKind.i64.wrap (z + 1)) w2 w2.order.length (rC w2.rows) (iC w2.joins) (iC w2.order) lf st (by omega) (by omega) (wrap_up hz (by omega)) hrow rfl rfl rfl rfl
            clear hE hG hrow hnx hnl
            generalize rowsS ps m (i + 1) w2 = q2 at *
            rw [show (((0 : Int) == 0) = true) from rfl] at hin
            generalize hpc : ps.map PlaceT.cells = pl at *
            obtain ⟨kd, nm, nv, ar, ou⟩ := p
            dsimp only at h5 hpg hlo hin
            refine loop_step hpr ?_
            conv => lhs; whnf
            refine iteK_dec_t hend ?_
            conv => lhs; whnf
            refine nextK_of (aop_ixO (i := i) rfl rfl rfl rfl rfl hz (by omega)) ?_
            conv => lhs; whnf
            refine nextK_of (aop_ldE1 rfl rfl hoD rfl rfl rfl) ?_
            conv => lhs; whnf
            refine nextK_of (aop_ixO (i := a) rfl rfl rfl rfl rfl rfl (by omega)) ?_
            conv => lhs; whnf
            refine nextK_of (aop_ldE1 rfl rfl hrb rfl rfl rfl) ?_
            conv => lhs; whnf
            refine nextK_of hca ?_
            conv => lhs; whnf
            refine nextK_of (aop_ix rfl rfl rfl rfl (ixL_at' (n := a) rfl hpg rfl)) ?_
            conv => lhs; whnf
            refine iteK_beq_f h5 ?_
            conv => lhs; whnf
            refine nextK_ite (loop_at hlp (hin j _ (by omega) rfl)) ?_
            conv => lhs; whnf
            refine Eq.trans (hih lf _ (by omega) rfl) ?_
            rfl
          · rw [hE he]
            clear hE hG hrow hnx hnl
            rw [show (e2 == 0) = false by simpa using he] at hin
            generalize hpc : ps.map PlaceT.cells = pl at *
            obtain ⟨kd, nm, nv, ar, ou⟩ := p
            dsimp only at h5 hpg hlo hin
            refine loop_step hpr ?_
            conv => lhs; whnf
            refine iteK_dec_t hend ?_
            conv => lhs; whnf
            refine nextK_of (aop_ixO (i := i) rfl rfl rfl rfl rfl hz (by omega)) ?_
            conv => lhs; whnf
            refine nextK_of (aop_ldE1 rfl rfl hoD rfl rfl rfl) ?_
            conv => lhs; whnf
            refine nextK_of (aop_ixO (i := a) rfl rfl rfl rfl rfl rfl (by omega)) ?_
            conv => lhs; whnf
            refine nextK_of (aop_ldE1 rfl rfl hrb rfl rfl rfl) ?_
            conv => lhs; whnf
            refine nextK_of hca ?_
            conv => lhs; whnf
            refine nextK_of (aop_ix rfl rfl rfl rfl (ixL_at' (n := a) rfl hpg rfl)) ?_
            conv => lhs; whnf
            refine iteK_beq_f h5 ?_
            conv => lhs; whnf
            refine nextK_ite (loop_at hlp (hin j _ (by omega) rfl)) ?_
            conv => lhs; whnf
            refine Eq.trans (b := some (Fx.ret, St.mk [((2 : Nat), AV.own (Nm.slot (19 : Nat)) (0 : Nat) n), ((3 : Nat), AV.own (Nm.slot (23 : Nat)) (0 : Nat) n), ((4 : Nat), AV.d (D.int IntKind.i64 e2)), ((5 : Nat), AV.own (Nm.slot (19 : Nat)) (0 : Nat) n), ((6 : Nat), AV.own (Nm.slot (23 : Nat)) (0 : Nat) n)] [(Nm.slot (19 : Nat), AObj.arr (61 : Nat) (2 : Nat) (0 : Nat) (rC w2.rows)), (Nm.slot (23 : Nat), AObj.arr (3 : Nat) (1 : Nat) (0 : Nat) (iC w2.joins))])) (by kernel_rfl) ?_
            (rw [show (e2 == 0) = false by simpa using he]; rfl)
end Go.Rx12
