/- A part of the proof of the law: what functions of the program come to, walked by Rx, or plain facts on it. -/
import Derived.Test.YtbeppoonnbfdeaaRScan
open Go Go.Rx Go.Proofs Go.Rx07 Go.RxTree
set_option maxRecDepth 1000000
set_option maxHeartbeats 4000000
set_option linter.unusedVariables false
set_option linter.unusedSimpArgs false
namespace Go.Rx07
theorem deepE (dp u : Int) (lv : List Int) (h0 : 0 ≤ dp) (h1 : dp ≤ 17) (h2 : 0 ≤ u) (h3 : u ≤ 100000) (h4 : lv.length ≤ 100000) : (IntKind.i64.wrap (IntKind.i64.wrap (dp + ((lvC lv).length : Int)) + u)) = dp + lv.length + u := by
  rw [lvC_len, Go.Rx.wrap_i64 (n := dp + (lv.length : Int)) (by omega) (by omega), Go.Rx.wrap_i64 (by omega) (by omega)]
theorem loop_prune {R : Type} {P : Program} {cfg : Cfg} {ic : Ic} {lp : LP} {nt f : Nat} {pins : List Nm} {b : Code} {n : Nat} {s t : St} {K : Fx × St → Option R} (h : prune pins (cfg.keep f ((Go.Rx.keyOf b).getD 0)) s = prune pins (cfg.keep f ((Go.Rx.keyOf b).getD 0)) t) : loopK P cfg ic lp nt f pins b n s K = loopK P cfg ic lp nt f pins b n t K := by
  cases n with
  | zero => rfl
  | succ n => simp only [loopK, h]
theorem loop5 {j n : Nat} {lp : LP} {s t : St} (h : prune [] [0, 1, 4, 5, 6, 7, 8] s = prune [] [0, 1, 4, 5, 6, 7, 8] t) : loopK Try.prog cfg (icall Try.prog cfg j) lp Try.f24.ntmps 24 [] (bodyAt Try.f24 5) n s (exitP [] (some [1, 4, 5, 7])) = loopK Try.prog cfg (icall Try.prog cfg j) lp Try.f24.ntmps 24 [] (bodyAt Try.f24 5) n t (exitP [] (some [1, 4, 5, 7])) := loop_prune h
def ScanOut (j : Nat) (l : List W) (e : Int) (lp : LP) (lf : Nat) (st : St) (r : Int × Int) : Prop :=
  (∃ n es v, r.1 ≠ 0 ∧ loopK Try.prog cfg (icall Try.prog cfg j) lp Try.f24.ntmps 24 [] (bodyAt Try.f24 5) lf st (exitP [] (some [1, 4, 5, 7])) = some (.ret, ⟨[(1, .d (.int .i64 e)), (4, .ptr (.slot 4) 0), (5, .own (.slot 18) 0 n), (7, v)], [(.slot 4, .cells [.d (.int .i64 r.1), .d (.int .i64 r.2)]), (.slot 18, .arr 63 2 0 es)]⟩)) ∨
  (∃ n es, 0 < n ∧ n ≤ es.length ∧ n ≤ 200000 ∧ r = (if n > 1 then (3, e) else (0, 0)) ∧ loopK Try.prog cfg (icall Try.prog cfg j) lp Try.f24.ntmps 24 [] (bodyAt Try.f24 5) lf st (exitP [] (some [1, 4, 5, 7])) = some (.exit 0, ⟨[(1, .d (.int .i64 e)), (4, .ptr (.slot 4) 0), (5, .own (.slot 18) 0 n), (7, .d (.bool false))], [(.slot 4, .cells [.d (.int .i64 0), .d (.int .i64 0)]), (.slot 18, .arr 63 2 0 es)]⟩))
theorem out_of {j : Nat} {l : List W} {e : Int} {lp : LP} {lf lf' : Nat} {st st' : St} {r : Int × Int} (h : ScanOut j l e lp lf' st' r) (hs : loopK Try.prog cfg (icall Try.prog cfg j) lp Try.f24.ntmps 24 [] (bodyAt Try.f24 5) lf st (exitP [] (some [1, 4, 5, 7])) = loopK Try.prog cfg (icall Try.prog cfg j) lp Try.f24.ntmps 24 [] (bodyAt Try.f24 5) lf' st' (exitP [] (some [1, 4, 5, 7]))) : ScanOut j l e lp lf st r := by
  unfold ScanOut at *
  rw [hs]; exact h
theorem scanL (j : Nat) (l : List W) (e : Int) (hl1 : l.length ≤ 50000) (hj : l.length + 200 < j) {lp : LP} (hlp : lp = lpOf Try.prog cfg (icall Try.prog cfg j) Try.f24.ntmps 24 j (([] : Hp).map (·.1))) : ∀ (m i : Nat) (dp u : Int) (lv : List Int) (rest : List (Int × List Int)) (b : Bool) (es : List (List D)) (lf : Nat) (st : St), l.length - i = m → i ≤ l.length → 0 ≤ dp → dp ≤ 17 → 0 ≤ u → u ≤ i → lv.length ≤ i → rest.length ≤ i →
    (∀ x ∈ rest, 0 ≤ x.1 ∧ x.1 ≤ 17 ∧ x.2.length ≤ i) → es.take (rest.length + 1) = stC ((dp, lv) :: rest) → m + 1 < lf → prune [] [0, 1, 4, 5, 6, 7, 8] st = some ⟨[(0, .d (.list (l.map W.cells))), (1, .d (.int .i64 e)), (4, .ptr (.slot 4) 0), (5, .own (.slot 18) 0 (rest.length + 1)), (6, .d (.int .i64 u)), (7, .d (.bool b)), (8, .d (.int .i64 (i : Int)))], [(.slot 4, .cells [.d (.int .i64 0), .d (.int .i64 0)]), (.slot 18, .arr 63 2 0 es)]⟩ → ScanOut j l e lp lf st (scanW e (l.drop i) dp lv rest u b) := by
  intro m
  induction m with
  | zero =>
    intro i dp u lv rest b es lf st hm hi d0 d1 u0 u1 hv hr hx hes hlf hp
    obtain ⟨lf, rfl⟩ : ∃ n, lf = n + 1 := ⟨lf - 1, by omega⟩
    have hie : i = l.length := by omega
    have hdp := deepE dp u lv d0 d1 u0 (by omega) (by omega)
    rw [List.drop_eq_nil_of_le (by omega)]
    cases b
    · rw [scanW]
      have hle := stC_le hes
      exact .inr ⟨rest.length + 1, es, by omega, hle, by omega, by split <;> split <;> first | rfl | omega, e_end j (by omega) l e u i dp lv rest es hes (by omega) i rfl hi (by omega) hie hlp lf st hp⟩
    · rw [scanW]
      by_cases g : dp + lv.length + u > 16
      · rw [if_pos g]
        exact .inl ⟨_, _, _, by simp, e_deep j (by omega) l e u i dp lv rest es hes (by omega) i rfl hi (by omega) hie (by omega) hlp lf st hp⟩
      · rw [if_neg g]
        exact .inl ⟨_, _, _, by simp, e_bad j (by omega) l e u i dp lv rest es hes (by omega) i rfl hi (by omega) hie (by omega) hlp lf st hp⟩
  | succ m ih =>
    intro i dp u lv rest b es lf st hm hi d0 d1 u0 u1 hv hr hx hes hlf hp
    obtain ⟨lf, rfl⟩ : ∃ n, lf = n + 1 := ⟨lf - 1, by omega⟩
    obtain ⟨w, hw⟩ : ∃ w, l[i]? = some w := ⟨_, List.getElem?_eq_getElem (show i < l.length by omega)⟩
    have hdp := deepE dp u lv d0 d1 u0 (by omega) (by omega)
    have ez : IntKind.i64.wrap ((i : Int) + 1) = ((i + 1 : Nat) : Int) := by rw [Go.Rx.wrap_i64 (by omega) (by omega)]; omega
    have hx' : ∀ x ∈ rest, 0 ≤ x.1 ∧ x.1 ≤ 17 ∧ x.2.length ≤ i + 1 := fun x h => by have := hx x h; omega
    rw [drop_at hw]
    cases b
    · rw [scanW]
      by_cases h41 : w.sg = [41] ∧ 0 < rest.length
      · obtain ⟨hs, hr0⟩ := h41
        rw [if_pos hs]
        match rest, hr0, hes, hx, hx', hr, hp with
        | (D', lv') :: rest', hr0, hes, hx, hx', hr, hp =>
        have hb := hx (D', lv') (by simp)
        simp only [] at hb
        simp only [List.length_cons] at hr
        have hf := fun r h => f_close j (by omega) l e u i dp lv ((D', lv') :: rest') es hes (by simp; omega) i rfl hi (by omega) w hw hs hr0 hlp lf st hp r h
        rw [ez] at hf
        have hpop := stC_pop hes
        rw [List.length_cons] at hpop
        simp only []
        obtain ⟨st', hst'⟩ : ∃ st' : St, prune [] [0, 1, 4, 5, 6, 7, 8] st' = some ⟨[(0, .d (.list (l.map W.cells))), (1, .d (.int .i64 e)), (4, .ptr (.slot 4) 0), (5, .own (.slot 18) 0 (List.length ((D', lv') :: rest'))), (6, .d (.int .i64 u)), (7, .d (.bool false)), (8, .d (.int .i64 ((i + 1 : Nat) : Int)))], [(.slot 4, .cells [.d (.int .i64 0), .d (.int .i64 0)]), (.slot 18, .arr 63 2 0 es)]⟩ := ⟨⟨[(0, .d (.list (l.map W.cells))), (1, .d (.int .i64 e)), (4, .ptr (.slot 4) 0), (5, .own (.slot 18) 0 (List.length ((D', lv') :: rest'))), (6, .d (.int .i64 u)), (7, .d (.bool false)), (8, .d (.int .i64 ((i + 1 : Nat) : Int)))], [(.slot 4, .cells [.d (.int .i64 0), .d (.int .i64 0)]), (.slot 18, .arr 63 2 0 es)]⟩, rfl⟩
        have := ih (i + 1) D' u lv' rest' false es lf st' (by omega) (by omega) hb.1 hb.2.1 u0 (by omega) (by omega) (by omega) (fun x h => hx' x (by simp [h])) hpop (by omega) hst'
        refine out_of this (hf _ (fun s2 h2 => ?_))
        exact loop5 (by rw [h2, hst'])
      · rw [show (if w.sg = [41] then rest else []) = [] by
          split
          · rename_i hs; exact List.eq_nil_of_length_eq_zero (by apply Decidable.byContradiction; intro h; exact h41 ⟨hs, by omega⟩)
          · rfl]
        simp only []
        have hql : (lv.dropWhile fun a => decide (a > levelK (kindW w))).length ≤ lv.length := (List.dropWhile_sublist _).length_le
        by_cases hs : w.sg = [41]
        · have hr0 : rest.length = 0 := by apply Decidable.byContradiction; intro h; exact h41 ⟨hs, by omega⟩
          have hk6 : levelK (kindW w) = 6 := by rw [kindW_sg hs]; decide
          rw [if_pos (.inl hk6)]
          cases hq : (lv.dropWhile fun a => decide (a > levelK (kindW w))) with
          | nil => exact .inl ⟨_, _, _, by simp, f_err6c j (by omega) l e u i dp lv rest es hes (by omega) i rfl hi (by omega) w hw hs hr0 (by omega) (by omega) hq hk6 hlp lf st hp⟩
          | cons a q =>
            rw [hq] at hql; simp only [List.length_cons] at hql
            exact .inl ⟨_, _, _, by simp, f_err6d j (by omega) l e u i dp lv rest es hes (by omega) i rfl hi (by omega) w hw hs hr0 (by omega) (by omega) a q (by omega) hq hk6 hlp lf st hp⟩
        · by_cases hk6 : levelK (kindW w) = 6
          · rw [if_pos (.inl hk6)]
            cases hq : (lv.dropWhile fun a => decide (a > levelK (kindW w))) with
            | nil => exact .inl ⟨_, _, _, by simp, f_err6a j (by omega) l e u i dp lv rest es hes (by omega) i rfl hi (by omega) w hw hs (by omega) (by omega) hq hk6 hlp lf st hp⟩
            | cons a q =>
              rw [hq] at hql; simp only [List.length_cons] at hql
              exact .inl ⟨_, _, _, by simp, f_err6b j (by omega) l e u i dp lv rest es hes (by omega) i rfl hi (by omega) w hw hs (by omega) (by omega) a q (by omega) hq hk6 hlp lf st hp⟩
          · cases hq : (lv.dropWhile fun a => decide (a > levelK (kindW w))) with
            | nil =>
              rw [if_neg (by simp [hk6]), if_neg (by simp)]
              have hf := fun r h => f_nil j (by omega) l e u i dp lv rest es hes (by omega) i rfl hi (by omega) w hw hs (by omega) (by omega) hq hk6 hlp lf st hp r h
              rw [ez] at hf
              obtain ⟨st', hst'⟩ : ∃ st' : St, prune [] [0, 1, 4, 5, 6, 7, 8] st' = some ⟨[(0, .d (.list (l.map W.cells))), (1, .d (.int .i64 e)), (4, .ptr (.slot 4) 0), (5, .own (.slot 18) 0 (rest.length + 1)), (6, .d (.int .i64 u)), (7, .d (.bool true)), (8, .d (.int .i64 ((i + 1 : Nat) : Int)))], [(.slot 4, .cells [.d (.int .i64 0), .d (.int .i64 0)]), (.slot 18, .arr 63 2 0 (es.set rest.length (opC (dp, [levelK (kindW w)]))))]⟩ := ⟨⟨[(0, .d (.list (l.map W.cells))), (1, .d (.int .i64 e)), (4, .ptr (.slot 4) 0), (5, .own (.slot 18) 0 (rest.length + 1)), (6, .d (.int .i64 u)), (7, .d (.bool true)), (8, .d (.int .i64 ((i + 1 : Nat) : Int)))], [(.slot 4, .cells [.d (.int .i64 0), .d (.int .i64 0)]), (.slot 18, .arr 63 2 0 (es.set rest.length (opC (dp, [levelK (kindW w)]))))]⟩, rfl⟩
              refine out_of (ih (i + 1) dp u [levelK (kindW w)] rest true _ lf st' (by omega) (by omega) d0 d1 u0 (by omega) (by simp) (by omega) hx' (stC_set hes) (by omega) hst') (hf _ (fun s2 h2 => ?_))
              exact loop5 (by rw [h2, hst']; rfl)
            | cons a q =>
              rw [hq] at hql; simp only [List.length_cons] at hql
              by_cases ha : a = levelK (kindW w)
              · by_cases hk3 : levelK (kindW w) = 3
                · rw [if_pos (.inr ⟨by rw [List.head?_cons, ha], hk3⟩)]
                  exact .inl ⟨_, _, _, by simp, f_err3 j (by omega) l e u i dp lv rest es hes (by omega) i rfl hi (by omega) w hw hs (by omega) (by omega) a q (by omega) hq ha hk3 hlp lf st hp⟩
                · rw [if_neg (by rintro (h | ⟨h1, h2⟩); exact hk6 h; exact hk3 h2), if_pos (by rw [List.head?_cons, ha])]
                  have hf := fun r h => f_same j (by omega) l e u i dp lv rest es hes (by omega) i rfl hi (by omega) w hw hs (by omega) (by omega) a q (by omega) hq ha hk6 hk3 hlp lf st hp r h
                  rw [ez] at hf
                  obtain ⟨st', hst'⟩ : ∃ st' : St, prune [] [0, 1, 4, 5, 6, 7, 8] st' = some ⟨[(0, .d (.list (l.map W.cells))), (1, .d (.int .i64 e)), (4, .ptr (.slot 4) 0), (5, .own (.slot 18) 0 (rest.length + 1)), (6, .d (.int .i64 u)), (7, .d (.bool true)), (8, .d (.int .i64 ((i + 1 : Nat) : Int)))], [(.slot 4, .cells [.d (.int .i64 0), .d (.int .i64 0)]), (.slot 18, .arr 63 2 0 (es.set rest.length (opC (dp, a :: q))))]⟩ := ⟨⟨[(0, .d (.list (l.map W.cells))), (1, .d (.int .i64 e)), (4, .ptr (.slot 4) 0), (5, .own (.slot 18) 0 (rest.length + 1)), (6, .d (.int .i64 u)), (7, .d (.bool true)), (8, .d (.int .i64 ((i + 1 : Nat) : Int)))], [(.slot 4, .cells [.d (.int .i64 0), .d (.int .i64 0)]), (.slot 18, .arr 63 2 0 (es.set rest.length (opC (dp, a :: q))))]⟩, rfl⟩
                  refine out_of (ih (i + 1) dp u (a :: q) rest true _ lf st' (by omega) (by omega) d0 d1 u0 (by omega) (by simp; omega) (by omega) hx' (stC_set hes) (by omega) hst') (hf _ (fun s2 h2 => ?_))
                  exact loop5 (by rw [h2, hst', List.take_length]; rfl)
              · rw [if_neg (by rintro (h | ⟨h1, h2⟩); exact hk6 h; rw [List.head?_cons] at h1; injection h1 with h1; exact ha h1), if_neg (by rw [List.head?_cons]; intro h; injection h with h; exact ha h)]
                have hf := fun r h => f_more j (by omega) l e u i dp lv rest es hes (by omega) i rfl hi (by omega) w hw hs (by omega) (by omega) a q (by omega) hq ha hk6 hlp lf st hp r h
                rw [ez] at hf
                obtain ⟨st', hst'⟩ : ∃ st' : St, prune [] [0, 1, 4, 5, 6, 7, 8] st' = some ⟨[(0, .d (.list (l.map W.cells))), (1, .d (.int .i64 e)), (4, .ptr (.slot 4) 0), (5, .own (.slot 18) 0 (rest.length + 1)), (6, .d (.int .i64 u)), (7, .d (.bool true)), (8, .d (.int .i64 ((i + 1 : Nat) : Int)))], [(.slot 4, .cells [.d (.int .i64 0), .d (.int .i64 0)]), (.slot 18, .arr 63 2 0 (es.set rest.length (opC (dp, levelK (kindW w) :: a :: q))))]⟩ := ⟨⟨[(0, .d (.list (l.map W.cells))), (1, .d (.int .i64 e)), (4, .ptr (.slot 4) 0), (5, .own (.slot 18) 0 (rest.length + 1)), (6, .d (.int .i64 u)), (7, .d (.bool true)), (8, .d (.int .i64 ((i + 1 : Nat) : Int)))], [(.slot 4, .cells [.d (.int .i64 0), .d (.int .i64 0)]), (.slot 18, .arr 63 2 0 (es.set rest.length (opC (dp, levelK (kindW w) :: a :: q))))]⟩, rfl⟩
                refine out_of (ih (i + 1) dp u (levelK (kindW w) :: a :: q) rest true _ lf st' (by omega) (by omega) d0 d1 u0 (by omega) (by simp; omega) (by omega) hx' (stC_set hes) (by omega) hst') (hf _ (fun s2 h2 => ?_))
                have hc : ((lvC (a :: q)).take (lvC (a :: q)).length ++ [[D.int .i64 (levelK (kindW w))]]).take ((lvC (a :: q)).length + 1) = lvC (levelK (kindW w) :: a :: q) := by
                  rw [List.take_length, ← lvC_cons, List.take_of_length_le (by rw [lvC_len, lvC_len]; simp)]
                exact loop5 (by rw [h2, hst', hc]; rfl)
    · rw [scanW]
      by_cases g : dp + lv.length + u > 16
      · rw [if_pos g]
        exact .inl ⟨_, _, _, by simp, t_deep j (by omega) l e u i dp lv rest es hes (by omega) i rfl hi (by omega) w hw (by omega) hlp lf st hp⟩
      · rw [if_neg g]
        by_cases s1 : w.sg = [45]
        · rw [if_pos (.inl s1)]
          have eu : IntKind.i64.wrap (u + 1) = u + 1 := Go.Rx.wrap_i64 (by omega) (by omega)
          have hf := fun r h => t_minus j (by omega) l e u i dp lv rest es hes (by omega) i rfl hi (by omega) w hw (by omega) s1 hlp lf st hp r h
          rw [ez, eu] at hf
          obtain ⟨st', hst'⟩ : ∃ st' : St, prune [] [0, 1, 4, 5, 6, 7, 8] st' = some ⟨[(0, .d (.list (l.map W.cells))), (1, .d (.int .i64 e)), (4, .ptr (.slot 4) 0), (5, .own (.slot 18) 0 (rest.length + 1)), (6, .d (.int .i64 (u + 1))), (7, .d (.bool true)), (8, .d (.int .i64 ((i + 1 : Nat) : Int)))], [(.slot 4, .cells [.d (.int .i64 0), .d (.int .i64 0)]), (.slot 18, .arr 63 2 0 es)]⟩ := ⟨⟨[(0, .d (.list (l.map W.cells))), (1, .d (.int .i64 e)), (4, .ptr (.slot 4) 0), (5, .own (.slot 18) 0 (rest.length + 1)), (6, .d (.int .i64 (u + 1))), (7, .d (.bool true)), (8, .d (.int .i64 ((i + 1 : Nat) : Int)))], [(.slot 4, .cells [.d (.int .i64 0), .d (.int .i64 0)]), (.slot 18, .arr 63 2 0 es)]⟩, rfl⟩
          refine out_of (ih (i + 1) dp (u + 1) lv rest true es lf st' (by omega) (by omega) d0 d1 (by omega) (by omega) (by omega) (by omega) hx' hes (by omega) hst') (hf _ (fun s2 h2 => ?_))
          exact loop5 (by rw [h2, hst'])
        by_cases s2 : w.sg = [33]
        · rw [if_pos (.inr s2)]
          have eu : IntKind.i64.wrap (u + 1) = u + 1 := Go.Rx.wrap_i64 (by omega) (by omega)
          have hf := fun r h => t_not j (by omega) l e u i dp lv rest es hes (by omega) i rfl hi (by omega) w hw (by omega) s2 hlp lf st hp r h
          rw [ez, eu] at hf
          obtain ⟨st', hst'⟩ : ∃ st' : St, prune [] [0, 1, 4, 5, 6, 7, 8] st' = some ⟨[(0, .d (.list (l.map W.cells))), (1, .d (.int .i64 e)), (4, .ptr (.slot 4) 0), (5, .own (.slot 18) 0 (rest.length + 1)), (6, .d (.int .i64 (u + 1))), (7, .d (.bool true)), (8, .d (.int .i64 ((i + 1 : Nat) : Int)))], [(.slot 4, .cells [.d (.int .i64 0), .d (.int .i64 0)]), (.slot 18, .arr 63 2 0 es)]⟩ := ⟨⟨[(0, .d (.list (l.map W.cells))), (1, .d (.int .i64 e)), (4, .ptr (.slot 4) 0), (5, .own (.slot 18) 0 (rest.length + 1)), (6, .d (.int .i64 (u + 1))), (7, .d (.bool true)), (8, .d (.int .i64 ((i + 1 : Nat) : Int)))], [(.slot 4, .cells [.d (.int .i64 0), .d (.int .i64 0)]), (.slot 18, .arr 63 2 0 es)]⟩, rfl⟩
          refine out_of (ih (i + 1) dp (u + 1) lv rest true es lf st' (by omega) (by omega) d0 d1 (by omega) (by omega) (by omega) (by omega) hx' hes (by omega) hst') (hf _ (fun s2 h2 => ?_))
          exact loop5 (by rw [h2, hst'])
        rw [if_neg (by rintro (h | h); exact s1 h; exact s2 h)]
        by_cases s3 : w.sg = [40]
        · rw [if_pos s3]
          have hf := fun r h => t_open j (by omega) l e u i dp lv rest es hes (by omega) i rfl hi (by omega) w hw (by omega) s3 hlp lf st hp r h
          rw [ez, hdp, Go.Rx.wrap_i64 (n := dp + lv.length + u + 1) (by omega) (by omega)] at hf
          obtain ⟨st', hst'⟩ : ∃ st' : St, prune [] [0, 1, 4, 5, 6, 7, 8] st' = some ⟨[(0, .d (.list (l.map W.cells))), (1, .d (.int .i64 e)), (4, .ptr (.slot 4) 0), (5, .own (.slot 18) 0 (List.length ((dp, lv) :: rest) + 1)), (6, .d (.int .i64 0)), (7, .d (.bool true)), (8, .d (.int .i64 ((i + 1 : Nat) : Int)))], [(.slot 4, .cells [.d (.int .i64 0), .d (.int .i64 0)]), (.slot 18, .arr 63 2 0 (es.take (rest.length + 1) ++ [opC (dp + lv.length + u + 1, [])]))]⟩ := ⟨⟨[(0, .d (.list (l.map W.cells))), (1, .d (.int .i64 e)), (4, .ptr (.slot 4) 0), (5, .own (.slot 18) 0 (List.length ((dp, lv) :: rest) + 1)), (6, .d (.int .i64 0)), (7, .d (.bool true)), (8, .d (.int .i64 ((i + 1 : Nat) : Int)))], [(.slot 4, .cells [.d (.int .i64 0), .d (.int .i64 0)]), (.slot 18, .arr 63 2 0 (es.take (rest.length + 1) ++ [opC (dp + lv.length + u + 1, [])]))]⟩, rfl⟩
          refine out_of (ih (i + 1) (dp + lv.length + u + 1) 0 [] ((dp, lv) :: rest) true _ lf st' (by omega) (by omega) (by omega) (by omega) (by omega) (by omega) (by simp) (by simp; omega) (fun x h => by
            rcases List.mem_cons.1 h with rfl | h
            · exact ⟨d0, d1, by simp only []; omega⟩
            · exact hx' x h) (stC_push hes) (by omega) hst') (hf _ (fun s2 h2 => ?_))
          exact loop5 (by rw [h2, hst']; rfl)
        rw [if_neg s3]
        by_cases hk : w.k ≠ 1 ∧ w.k ≠ 2
        · rw [if_pos hk]
          exact .inl ⟨_, _, _, by simp, t_bad j (by omega) l e u i dp lv rest es hes (by omega) i rfl hi (by omega) w hw (by omega) s1 s2 s3 hk.1 hk.2 hlp lf st hp⟩
        · rw [if_neg hk]
          have hf := fun r h => t_word j (by omega) l e u i dp lv rest es hes (by omega) i rfl hi (by omega) w hw (by omega) s1 s2 s3 (by omega) hlp lf st hp r h
          rw [ez] at hf
          obtain ⟨st', hst'⟩ : ∃ st' : St, prune [] [0, 1, 4, 5, 6, 7, 8] st' = some ⟨[(0, .d (.list (l.map W.cells))), (1, .d (.int .i64 e)), (4, .ptr (.slot 4) 0), (5, .own (.slot 18) 0 (rest.length + 1)), (6, .d (.int .i64 0)), (7, .d (.bool false)), (8, .d (.int .i64 ((i + 1 : Nat) : Int)))], [(.slot 4, .cells [.d (.int .i64 0), .d (.int .i64 0)]), (.slot 18, .arr 63 2 0 es)]⟩ := ⟨⟨[(0, .d (.list (l.map W.cells))), (1, .d (.int .i64 e)), (4, .ptr (.slot 4) 0), (5, .own (.slot 18) 0 (rest.length + 1)), (6, .d (.int .i64 0)), (7, .d (.bool false)), (8, .d (.int .i64 ((i + 1 : Nat) : Int)))], [(.slot 4, .cells [.d (.int .i64 0), .d (.int .i64 0)]), (.slot 18, .arr 63 2 0 es)]⟩, rfl⟩
          refine out_of (ih (i + 1) dp 0 lv rest false es lf st' (by omega) (by omega) d0 d1 (by omega) (by omega) (by omega) (by omega) hx' hes (by omega) hst') (hf _ (fun s2 h2 => ?_))
          exact loop5 (by rw [h2, hst'])
theorem scan24 (l : List W) (e : Int) (hl1 : l.length ≤ 50000) (k : Nat) (hk : l.length + 300 < k) : icall Try.prog cfg k 24 [.d (.list (l.map W.cells)), .d (.int .i64 e)] [] = some (.ret (.agg [.d (.int .i64 (scanW e l 1 [] [] 0 true).1), .d (.int .i64 (scanW e l 1 [] [] 0 true).2)]), []) := by
  obtain ⟨k, rfl⟩ : ∃ j, k = j + 1 := ⟨k - 1, by omega⟩
  obtain ⟨lp, hlp⟩ : ∃ lp, lp = lpOf Try.prog cfg (icall Try.prog cfg k) Try.f24.ntmps 24 k (([] : Hp).map (·.1)) := ⟨_, rfl⟩
  have hL := fun st hp => scanL k l e hl1 (by omega) hlp l.length 0 1 0 [] [] true [[.int .i64 1, .list []]] k st (by omega) (by omega) (by omega) (by omega) (by omega) (by omega) (by simp) (by simp) (by simp) (by rfl) (by omega) hp
  rw [List.drop_zero] at hL
  generalize scanW e l 1 [] [] 0 true = r at *
  obtain ⟨er, at'⟩ := r
  rw [icall_body rfl Try.func24, ← hlp]
  obtain ⟨s0, hs0⟩ : ∃ s0 : St, prune [] [0, 1, 4, 5, 6, 7, 8] s0 = some ⟨[(0, .d (.list (l.map W.cells))), (1, .d (.int .i64 e)), (4, .ptr (.slot 4) 0), (5, .own (.slot 18) 0 1), (6, .d (.int .i64 0)), (7, .d (.bool true)), (8, .d (.int .i64 0))], [(.slot 4, .cells [.d (.int .i64 0), .d (.int .i64 0)]), (.slot 18, .arr 63 2 0 [[.int .i64 1, .list []]])]⟩ := ⟨⟨[(0, .d (.list (l.map W.cells))), (1, .d (.int .i64 e)), (4, .ptr (.slot 4) 0), (5, .own (.slot 18) 0 1), (6, .d (.int .i64 0)), (7, .d (.bool true)), (8, .d (.int .i64 0))], [(.slot 4, .cells [.d (.int .i64 0), .d (.int .i64 0)]), (.slot 18, .arr 63 2 0 [[.int .i64 1, .list []]])]⟩, rfl⟩
  have hL2 := hL s0 hs0
  have hgo : ∀ st, prune [] [0, 1, 4, 5, 6, 7, 8] st = some ⟨[(0, .d (.list (l.map W.cells))), (1, .d (.int .i64 e)), (4, .ptr (.slot 4) 0), (5, .own (.slot 18) 0 1), (6, .d (.int .i64 0)), (7, .d (.bool true)), (8, .d (.int .i64 0))], [(.slot 4, .cells [.d (.int .i64 0), .d (.int .i64 0)]), (.slot 18, .arr 63 2 0 [[.int .i64 1, .list []]])]⟩ → loopK Try.prog cfg (icall Try.prog cfg k) lp Try.f24.ntmps 24 [] (bodyAt Try.f24 5) k st (exitP [] (some [1, 4, 5, 7])) = loopK Try.prog cfg (icall Try.prog cfg k) lp Try.f24.ntmps 24 [] (bodyAt Try.f24 5) k s0 (exitP [] (some [1, 4, 5, 7])) := fun st hp => loop5 (by rw [hp, hs0])
  rcases hL2 with ⟨n, es, v, he, hr⟩ | ⟨n, es, hn, hne, hnl, hr0, hr⟩
  · simp only [] at hr
    conv => lhs; whnf
    refine nextK_of (loop_at hlp ((hgo _ rfl).trans hr)) ?_
    conv => lhs; whnf
    refine Eq.trans (b := some (Res.ret (AV.agg [AV.d (D.int IntKind.i64 er), AV.d (D.int IntKind.i64 at')]), [])) (by kernel_rfl) ?_
    rfl
  · by_cases h1 : n > 1
    · rw [if_pos h1] at hr0
      injection hr0 with e1 e2
      subst e1 e2
      have hgt : ((es.take n).length : Int) > 1 := by rw [List.length_take]; omega
      conv => lhs; whnf
      refine nextK_of (loop_at hlp ((hgo _ rfl).trans hr)) ?_
      conv => lhs; whnf
      refine iteK_dec_t hgt ?_
      conv => lhs; whnf
      refine Eq.trans (b := some (Res.ret (AV.agg [AV.d (D.int IntKind.i64 (3 : Int)), AV.d (D.int IntKind.i64 at')]), [])) (by kernel_rfl) ?_
      rfl
    · rw [if_neg h1] at hr0
      injection hr0 with e1 e2
      subst e1 e2
      have hgt : ¬ ((es.take n).length : Int) > 1 := by rw [List.length_take]; omega
      conv => lhs; whnf
      refine nextK_of (loop_at hlp ((hgo _ rfl).trans hr)) ?_
      conv => lhs; whnf
      refine iteK_dec_f hgt ?_
      conv => lhs; whnf
      refine Eq.trans (b := some (Res.ret (AV.agg [AV.d (D.int IntKind.i64 (0 : Int)), AV.d (D.int IntKind.i64 (0 : Int))]), [])) (by kernel_rfl) ?_
      rfl
end Go.Rx07
