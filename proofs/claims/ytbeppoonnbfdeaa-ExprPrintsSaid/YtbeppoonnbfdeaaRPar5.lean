/- A part of the proof of the law: what functions of the program come to, walked by Rx, or plain facts on it. -/
import Derived.Test.YtbeppoonnbfdeaaRPar4
import Derived.Test.YtbeppoonnbfdeaaRSpecP
open Go Go.Rx Go.Proofs Go.Rx07.P Go.RxTree
set_option maxRecDepth 1000000
set_option maxHeartbeats 4000000
set_option linter.unusedVariables false
set_option linter.unusedSimpArgs false
namespace Go.Rx07.P
/-- What comes of a call of the parser's. -/
def OutR (l : List W) (L : Nat) (r : Option (Res × Hp)) : Rs → Prop
  | .tree x j => r = some (.ret x.av, paZ l (j : Int) L)
  | .bad er at' => ∃ z : Int, r = some (.pan (.iface 28 (.agg [.d (.int .i64 er), .d (.int .i64 at')])), paZ l z L)
/-- What is read lies in the text. -/
def Fine (l : List W) (L : Nat) (i : Nat) : Rs → Prop
  | .tree x j => POk l i j x
  | .bad er at' => (er = 3 ∨ er = 6) ∧ 0 ≤ at' ∧ at' ≤ L
theorem fine_loop (l : List W) (L : Nat) (lo : Int) (i0 : Nat) (f : Nat → Rs) (hf : ∀ j, i0 < j → j < l.length → Fine l L (j + 1) (f (j + 1))) :
    ∀ (m j : Nat) (x : T) (b : Bool), POk l i0 j x → Fine l L i0 (loopS f l lo m j x b) := by
  intro m
  induction m with
  | zero => intro j x b hx; exact hx
  | succ m ih =>
    intro j x b hx
    rw [loopS]
    by_cases he : endsK l lo b j
    · rw [if_pos he]; exact hx
    · rw [if_neg he]
      have g1 : twoK (signL l j) ≠ 0 := fun h => he (.inl h)
      have hjl : j < l.length := signL_lt (fun h => g1 (by rw [h]; rfl))
      have hq := hf j hx.lt hjl
      cases hr : f (j + 1) with
      | bad e a => rw [hr] at hq; exact hq
      | tree y j' =>
        rw [hr] at hq
        exact ih j' _ true (two_pok _ (twoK_wf _) hx hq)
theorem fine (l : List W) (L : Nat) (hg : ∀ w ∈ l, w.Good L) : ∀ (M : Nat),
    (∀ (i : Nat) (d : Int), i ≤ l.length → 8 * (l.length - i) + 1 ≤ M → Fine l L i (oneS l L M i d)) ∧
    (∀ (i : Nat) (lo d : Int), i ≤ l.length → lo ≤ 6 → 1 ≤ lo → 8 * ((l.length - i : Nat) : Int) + 8 - lo ≤ M → Fine l L i (exprS l L M i lo d)) := by
  intro M
  induction M with
  | zero => exact ⟨fun i d hi hM => by omega, fun i lo d hi h6 h1 hM => by omega⟩
  | succ M ih =>
    obtain ⟨ih1, ih2⟩ := ih
    refine ⟨fun i d hi hM => ?_, fun i lo d hi h6 h1 hM => ?_⟩
    · rw [oneS]
      have hb := atL_b hg i
      split
      · exact ⟨.inr rfl, hb.1, hb.2⟩
      · split
        · rename_i g1
          have hil : i < l.length := signL_lt (by rcases g1 with g | g <;> rw [g] <;> simp)
          have h := ih1 (i + 1) (d + 1) (by omega) (by omega)
          cases hr : oneS l L M (i + 1) (d + 1) with
          | bad e a => rw [hr] at h; exact h
          | tree x j =>
            rw [hr] at h
            obtain ⟨b1, b2, b3, b4, b5⟩ := h
            refine ⟨by omega, b2, ⟨by split <;> decide, by decide, by simp, by simp [maxLen], b3, trivial⟩, ⟨by simp, b4, trivial⟩, ?_⟩
            simp only [T.wt, wtL, List.length_nil]
            omega
        · split
          · rename_i g2
            have hil : i < l.length := signL_lt (by rw [g2]; simp)
            have h := ih2 (i + 1) 1 (d + 1) (by omega) (by omega) (by omega) (by omega)
            cases hr : exprS l L M (i + 1) 1 (d + 1) with
            | bad e a => rw [hr] at h; exact h
            | tree x j =>
              rw [hr] at h
              dsimp only
              by_cases g3 : signL l j = [41]
              · rw [if_pos g3]
                have hjl : j < l.length := signL_lt (by rw [g3]; simp)
                obtain ⟨b1, b2, b3, b4, b5⟩ := h
                exact ⟨by omega, by omega, b3, b4, by omega⟩
              · rw [if_neg g3]
                have hb := atL_b hg j
                exact ⟨.inl rfl, hb.1, hb.2⟩
          · split
            · exact ⟨.inl rfl, hb.1, hb.2⟩
            · rename_i w hw
              split
              · exact ⟨.inl rfl, hb.1, hb.2⟩
              · exact word_pok hw (hg _ (List.mem_of_getElem? hw))
    · rw [exprS]
      split
      · exact ih1 i d hi (by omega)
      · have h := ih2 i (lo + 1) d hi (by omega) (by omega) (by omega)
        cases hr : exprS l L M i (lo + 1) d with
        | bad e a => rw [hr] at h; exact h
        | tree x j =>
          rw [hr] at h
          exact fine_loop l L lo i _ (fun j hj hjl => ih2 (j + 1) (lo + 1) (d + 1) (by omega) (by omega) (by omega) (by omega)) l.length j x false h
/-- What the parser's loop comes to. -/
def LOutR (l : List W) (L : Nat) (oc : Fx × St) : Rs → Prop
  | .tree x j => ∃ v : Nat, v ≤ 2 ∧ Shp v x ∧ oc = RX v l (j : Int) L x
  | .bad er at' => ∃ (v : Nat) (x : T) (z : Int) (fr : Fr), v ≤ 2 ∧ Shp v x ∧ oc = PX v l er at' z L x fr
theorem par5_loop (l : List W) (L : Nat) (hl : l.length ≤ 100000) (lo d : Int) (i0 k : Nat) (hk : 3 < k) (f : Nat → Rs)
    (ihe : ∀ i, i0 < i → i < l.length → OutR l L (icall Try.prog cfg k 21 [.ptr (.arg 0) 0, .d (.int .i64 (IntKind.i64.wrap (lo + 1))), .d (.int .i64 (IntKind.i64.wrap (d + 1)))] (paZ l (IntKind.i64.wrap ((i : Int) + 1)) L)) (f (i + 1)) ∧ Fine l L (i + 1) (f (i + 1)))
    {lp : LP} (hlp : lp = lpOf Try.prog cfg (icall Try.prog cfg k) Try.f21.ntmps 21 k ((paZ l 0 0).map (·.1))) :
    ∀ (m i : Nat) (n : Int) (v : Nat) (x : T), l.length - i ≤ m → v ≤ 2 → Shp v x → 1 ≤ n → n + m ≤ 1000000 → POk l i0 i x →
      ∃ oc, LOutR l L oc (loopS f l lo m i x (decide (n > 1))) ∧ ∀ (lf : Nat) (st : St), m + 1 < lf → prune [Nm.arg 0] [0, 1, 2, 6, 7, 8] st = some (SX v l (i : Int) L lo d n x) → loopK Try.prog cfg (icall Try.prog cfg k) lp Try.f21.ntmps 21 [Nm.arg 0] (bodyAt Try.f21 6) lf st (exitP [Nm.arg 0] (some [6])) = some oc := by
  intro m
  induction m with
  | zero =>
    intro i n v x hm hv hs hn hnm hx
    have hil := hx.le
    have hsg : signL l i = [] := by
      apply Decidable.byContradiction
      intro h
      have := signL_lt h
      omega
    have hex : twoK (signL l i) = 0 ∨ levelK (twoK (signL l i)) ≠ lo ∨ (lo = 3 ∧ n > 1) := .inl (by rw [hsg]; rfl)
    refine ⟨RX v l i L x, ⟨v, hv, hs, rfl⟩, fun lf st hlf hp => ?_⟩
    obtain ⟨lf, rfl⟩ : ∃ n, lf = n + 1 := ⟨lf - 1, by omega⟩
    match v, hv, hs with
    | 0, _, _ => exact l_exit0 l i i L lo d n rfl k hk x hex hlp lf st hp
    | 1, _, hs =>
      rcases hs with h | ⟨q, kl, rfl, hkl⟩
      · cases h
      · exact l_exit1 l i i L lo d n rfl k hk q kl hkl hex hlp lf st hp
    | 2, _, hs =>
      rcases hs with h | ⟨q, kl, rfl, hkl⟩
      · cases h
      · exact l_exit2 l i i L lo d n rfl k hk q kl hkl hex hlp lf st hp
  | succ m ihm =>
    intro i n v x hm hv hs hn hnm hx
    rw [loopS]
    by_cases hex : twoK (signL l i) = 0 ∨ levelK (twoK (signL l i)) ≠ lo ∨ (lo = 3 ∧ n > 1)
    · rw [if_pos (show endsK l lo (decide (n > 1)) i by unfold endsK; simpa using hex)]
      refine ⟨RX v l i L x, ⟨v, hv, hs, rfl⟩, fun lf st hlf hp => ?_⟩
      obtain ⟨lf, rfl⟩ : ∃ n, lf = n + 1 := ⟨lf - 1, by omega⟩
      match v, hv, hs with
      | 0, _, _ => exact l_exit0 l i i L lo d n rfl k hk x hex hlp lf st hp
      | 1, _, hs =>
        rcases hs with h | ⟨q, kl, rfl, hkl⟩
        · cases h
        · exact l_exit1 l i i L lo d n rfl k hk q kl hkl hex hlp lf st hp
      | 2, _, hs =>
        rcases hs with h | ⟨q, kl, rfl, hkl⟩
        · cases h
        · exact l_exit2 l i i L lo d n rfl k hk q kl hkl hex hlp lf st hp
    · rw [if_neg (show ¬ endsK l lo (decide (n > 1)) i by unfold endsK; simpa using hex)]
      have g1 : twoK (signL l i) ≠ 0 := fun h => hex (.inl h)
      have g2 : levelK (twoK (signL l i)) = lo := Decidable.byContradiction fun h => hex (.inr (.inl h))
      have g3 : ¬ (lo = 3 ∧ n > 1) := fun h => hex (.inr (.inr h))
      have hil : i < l.length := signL_lt (fun h => g1 (by rw [h]; rfl))
      have hi0 := hx.lt
      obtain ⟨hc, hfy⟩ := ihe i hi0 hil
      have hwn : IntKind.i64.wrap (n + 1) = n + 1 := Go.Rx.wrap_i64 (by omega) (by omega)
      cases hr : f (i + 1) with
      | tree y j =>
        rw [hr] at hc hfy
        dsimp only
        replace hc : icall Try.prog cfg k 21 [.ptr (.arg 0) 0, .d (.int .i64 (IntKind.i64.wrap (lo + 1))), .d (.int .i64 (IntKind.i64.wrap (d + 1)))] (paZ l (IntKind.i64.wrap ((i : Int) + 1)) L) = some (.ret y.av, paZ l (j : Int) L) := hc
        have hy : POk l (i + 1) j y := hfy
        have hxy := two_pok (twoK (signL l i)) (twoK_wf _) hx hy
        have hj := hy.lt
        have key : ∀ v', v' ≤ 2 → v' ≠ 0 → _ := fun v' hv' _ => ihm j (n + 1) v' (T.mk (twoK (signL l i)) 0 [] [x, y]) (by omega) hv' (.inr ⟨_, _, rfl, rfl⟩) (by omega) (by omega) hxy
        rw [decide_eq_true (show n + 1 > 1 by omega)] at key
        match v, hv, hs with
        | 0, _, _ =>
          obtain ⟨oc, o1, o2⟩ := key 1 (by omega) (by omega)
          refine ⟨oc, o1, fun lf st hlf hp => ?_⟩
          obtain ⟨lf, rfl⟩ : ∃ n, lf = n + 1 := ⟨lf - 1, by omega⟩
          refine l_next0 l i i L lo d n rfl k hk x y j _ rfl g1 g2 g3 hc hlp lf st hp _ (fun st' hp' => o2 lf st' (by omega) ?_)
          rw [hp', hwn]
          show some _ = some (⟨[(0, .ptr (.arg 0) 0), (1, .d (.int .i64 lo)), (2, .d (.int .i64 d)), (6, .ptr (.slot 6) 0), (7, .ptr (.slot 7) 0), (8, .d (.int .i64 (n + 1)))], [(.arg 0, .cells [.d (.list (l.map W.cells)), .d (.int .i64 (j : Int)), .d (.int .i64 L)]), (.slot 6, .cells [.d (.int .i64 0), .d (.int .i64 0), .d (.str []), .nilsl]), (.slot 7, .cells [.d (.int .i64 (twoK (signL l i))), .d (.int .i64 0), .d (.str []), .own (.slot 57) 0 2]), ((.slot 57), .arr 25 4 0 (cellsL [x, y]))]⟩ : St)
          rw [cells2]
        | 1, _, hs =>
          rcases hs with h | ⟨q, kl, rfl, hkl⟩
          · cases h
          obtain ⟨oc, o1, o2⟩ := key 2 (by omega) (by omega)
          refine ⟨oc, o1, fun lf st hlf hp => ?_⟩
          obtain ⟨lf, rfl⟩ : ∃ n, lf = n + 1 := ⟨lf - 1, by omega⟩
          refine l_next1 l i i L lo d n rfl k hk q kl hkl y j _ rfl g1 g2 g3 hc hlp lf st hp _ (fun st' hp' => o2 lf st' (by omega) ?_)
          rw [hp', List.take_of_length_le (by rw [cellsL_len]; omega), hwn]
          show some _ = some (⟨[(0, .ptr (.arg 0) 0), (1, .d (.int .i64 lo)), (2, .d (.int .i64 d)), (6, .ptr (.slot 6) 0), (7, .ptr (.slot 7) 0), (8, .d (.int .i64 (n + 1)))], [(.arg 0, .cells [.d (.list (l.map W.cells)), .d (.int .i64 (j : Int)), .d (.int .i64 L)]), (.slot 6, .cells [.d (.int .i64 0), .d (.int .i64 0), .d (.str []), .nilsl]), (.slot 7, .cells [.d (.int .i64 (twoK (signL l i))), .d (.int .i64 0), .d (.str []), .own (.cell (.slot 57) 0) 0 2]), ((.cell (.slot 57) 0), .arr 25 4 0 (cellsL [T.mk q 0 [] kl, y]))]⟩ : St)
          rw [cells2]; rfl
        | 2, _, hs =>
          rcases hs with h | ⟨q, kl, rfl, hkl⟩
          · cases h
          obtain ⟨oc, o1, o2⟩ := key 1 (by omega) (by omega)
          refine ⟨oc, o1, fun lf st hlf hp => ?_⟩
          obtain ⟨lf, rfl⟩ : ∃ n, lf = n + 1 := ⟨lf - 1, by omega⟩
          refine l_next2 l i i L lo d n rfl k hk q kl hkl y j _ rfl g1 g2 g3 hc hlp lf st hp _ (fun st' hp' => o2 lf st' (by omega) ?_)
          rw [hp', List.take_of_length_le (by rw [cellsL_len]; omega), hwn]
          show some _ = some (⟨[(0, .ptr (.arg 0) 0), (1, .d (.int .i64 lo)), (2, .d (.int .i64 d)), (6, .ptr (.slot 6) 0), (7, .ptr (.slot 7) 0), (8, .d (.int .i64 (n + 1)))], [(.arg 0, .cells [.d (.list (l.map W.cells)), .d (.int .i64 (j : Int)), .d (.int .i64 L)]), (.slot 6, .cells [.d (.int .i64 0), .d (.int .i64 0), .d (.str []), .nilsl]), (.slot 7, .cells [.d (.int .i64 (twoK (signL l i))), .d (.int .i64 0), .d (.str []), .own (.slot 57) 0 2]), ((.slot 57), .arr 25 4 0 (cellsL [T.mk q 0 [] kl, y]))]⟩ : St)
          rw [cells2]; rfl
      | bad er at' =>
        rw [hr] at hc
        dsimp only
        obtain ⟨z1, hc⟩ := hc
        match v, hv, hs with
        | 0, _, hs =>
          obtain ⟨fr, hfr⟩ := l_pan0 l i i L lo d n rfl k hk x er at' z1 _ rfl g1 g2 g3 hc hlp
          refine ⟨PX 0 l er at' z1 L x fr, ⟨0, x, z1, fr, by omega, hs, rfl⟩, fun lf st hlf hp => ?_⟩
          obtain ⟨lf, rfl⟩ : ∃ n, lf = n + 1 := ⟨lf - 1, by omega⟩
          exact hfr lf st hp
        | 1, _, hs =>
          rcases hs with h | ⟨q, kl, rfl, hkl⟩
          · cases h
          obtain ⟨fr, hfr⟩ := l_pan1 l i i L lo d n rfl k hk q kl hkl er at' z1 _ rfl g1 g2 g3 hc hlp
          refine ⟨PX 1 l er at' z1 L (T.mk q 0 [] kl) fr, ⟨1, _, z1, fr, by omega, .inr ⟨q, kl, rfl, hkl⟩, rfl⟩, fun lf st hlf hp => ?_⟩
          obtain ⟨lf, rfl⟩ : ∃ n, lf = n + 1 := ⟨lf - 1, by omega⟩
          exact hfr lf st hp
        | 2, _, hs =>
          rcases hs with h | ⟨q, kl, rfl, hkl⟩
          · cases h
          obtain ⟨fr, hfr⟩ := l_pan2 l i i L lo d n rfl k hk q kl hkl er at' z1 _ rfl g1 g2 g3 hc hlp
          refine ⟨PX 2 l er at' z1 L (T.mk q 0 [] kl) fr, ⟨2, _, z1, fr, by omega, .inr ⟨q, kl, rfl, hkl⟩, rfl⟩, fun lf st hlf hp => ?_⟩
          obtain ⟨lf, rfl⟩ : ∃ n, lf = n + 1 := ⟨lf - 1, by omega⟩
          exact hfr lf st hp
theorem par5 (l : List W) (L : Nat) (hg : ∀ w ∈ l, w.Good L) (hl : l.length ≤ 100000) : ∀ (M : Nat),
    (∀ (i : Nat) (d : Int), i ≤ l.length → 8 * (l.length - i) + 1 ≤ M → 0 ≤ d → d + ((l.length - i : Nat) : Int) ≤ 1000000 → ∀ k, M + l.length + 40 < k → OutR l L (icall Try.prog cfg k 32 [.ptr (.arg 0) 0, .d (.int .i64 d)] (paZ l (i : Int) L)) (oneS l L M i d)) ∧
    (∀ (i : Nat) (lo d : Int), i ≤ l.length → 1 ≤ lo → lo ≤ 6 → 8 * ((l.length - i : Nat) : Int) + 8 - lo ≤ M → 0 ≤ d → d + ((l.length - i : Nat) : Int) ≤ 1000000 → ∀ k, M + l.length + 40 < k → OutR l L (icall Try.prog cfg k 21 [.ptr (.arg 0) 0, .d (.int .i64 lo), .d (.int .i64 d)] (paZ l (i : Int) L)) (exprS l L M i lo d)) := by
  intro M
  induction M with
  | zero => exact ⟨fun i d hi hM => by omega, fun i lo d hi q1 q6 hM => by omega⟩
  | succ M ih =>
    obtain ⟨ih1, ih2⟩ := ih
    obtain ⟨fi1, fi2⟩ := fine l L hg M
    have wd : ∀ d : Int, 0 ≤ d → d ≤ 1000001 → IntKind.i64.wrap (d + 1) = d + 1 := fun d q1 q2 => Go.Rx.wrap_i64 (by omega) (by omega)
    refine ⟨fun i d hi hM hd0 hd k hk => ?_, fun i lo d hi q1 q6 hM hd0 hd k hk => ?_⟩
    · obtain ⟨k, rfl⟩ : ∃ j, k = j + 1 := ⟨k - 1, by omega⟩
      rw [oneS]
      have hz1 : IntKind.i64.wrap ((i : Int) + 1) = ((i + 1 : Nat) : Int) := by rw [Go.Rx.wrap_i64 (by omega) (by omega)]; omega
      by_cases g0 : d > 16
      · rw [if_pos g0]
        exact ⟨i, o_lim l i i L d rfl k (by omega) g0⟩
      rw [if_neg g0]
      by_cases g1 : signL l i = [45] ∨ signL l i = [33]
      · rw [if_pos g1]
        have hil : i < l.length := signL_lt (by rcases g1 with g | g <;> rw [g] <;> simp)
        obtain ⟨c, kk, hs, hc, hkk⟩ : ∃ c kk, signL l i = [c] ∧ ((c = 45 ∧ kk = (5 : Int)) ∨ (c = 33 ∧ kk = 6)) ∧ kk = (if signL l i = [45] then (5 : Int) else 6) := by
          rcases g1 with g | g
          · exact ⟨45, 5, g, .inl ⟨rfl, rfl⟩, by rw [if_pos g]⟩
          · exact ⟨33, 6, g, .inr ⟨rfl, rfl⟩, by rw [g]; rfl⟩
        have h := ih1 (i + 1) (d + 1) (by omega) (by omega) (by omega) (by omega) k (by omega)
        rw [← wd d hd0 (by omega), ← hz1] at h
        rw [wd d hd0 (by omega)] at h
        rw [← hkk]
        cases hr : oneS l L M (i + 1) (d + 1) with
        | tree x j =>
          rw [hr] at h
          rw [← wd d hd0 (by omega)] at h
          exact o_un l i i L d rfl k (by omega) g0 c kk hs hc x j h
        | bad er at' =>
          rw [hr] at h
          rw [← wd d hd0 (by omega)] at h
          obtain ⟨z1, h⟩ := h
          exact ⟨z1, o_unP l i i L d rfl k (by omega) g0 c hs (by rcases hc with ⟨h, _⟩ | ⟨h, _⟩; exact .inl h; exact .inr h) er at' z1 h⟩
      rw [if_neg g1]
      by_cases g2 : signL l i = [40]
      · rw [if_pos g2]
        have hil : i < l.length := signL_lt (by rw [g2]; simp)
        have h := ih2 (i + 1) 1 (d + 1) (by omega) (by omega) (by omega) (by omega) (by omega) (by omega) k (by omega)
        have hf := fi2 (i + 1) 1 (d + 1) (by omega) (by omega) (by omega) (by omega)
        rw [← hz1] at h
        cases hr : exprS l L M (i + 1) 1 (d + 1) with
        | tree x j =>
          rw [hr] at h hf
          rw [← wd d hd0 (by omega)] at h
          dsimp only
          by_cases g3 : signL l j = [41]
          · rw [if_pos g3]
            have hjl : j < l.length := signL_lt (by rw [g3]; simp)
            have hzj : IntKind.i64.wrap ((j : Int) + 1) = ((j + 1 : Nat) : Int) := by rw [Go.Rx.wrap_i64 (by omega) (by omega)]; omega
            have := o_br l i i L d rfl k (by omega) g0 g2 x j j rfl h g3
            rw [hzj] at this
            exact this
          · rw [if_neg g3]
            exact ⟨j, o_brF l i i L d rfl k (by omega) g0 g2 x j j rfl h g3⟩
        | bad er at' =>
          rw [hr] at h
          rw [← wd d hd0 (by omega)] at h
          obtain ⟨z1, h⟩ := h
          exact ⟨z1, o_brP l i i L d rfl k (by omega) g0 g2 er at' z1 h⟩
      rw [if_neg g2]
      by_cases g3 : signL l i ≠ [] ∨ l.length ≤ i
      · have hb := o_bad l i i L d rfl k (by omega) g0 (fun h => g1 (.inl h)) (fun h => g1 (.inr h)) g2 g3
        cases hw : l[i]? with
        | none => exact ⟨i, hb⟩
        | some w =>
          dsimp only
          have hil := (List.getElem?_eq_some_iff.1 hw).1
          rw [if_pos (by rcases g3 with g | g; exact g; omega)]
          exact ⟨i, hb⟩
      · have hil : i < l.length := by omega
        have hs : signL l i = [] := Decidable.byContradiction fun h => g3 (.inl h)
        have hw : l[i]? = some l[i] := List.getElem?_eq_getElem hil
        rw [hw]
        dsimp only
        rw [if_neg (fun h => h hs)]
        have := o_word l i i L d rfl k (by omega) g0 hs _ hw
        rw [hz1] at this
        exact this
    · obtain ⟨k, rfl⟩ : ∃ j, k = j + 1 := ⟨k - 1, by omega⟩
      rw [exprS]
      by_cases g0 : lo > 5
      · rw [if_pos g0]
        have h := ih1 i d hi (by omega) hd0 hd k (by omega)
        cases hr : oneS l L M i d with
        | tree x j => rw [hr] at h; exact e_one l i L lo d k (by omega) g0 x j h
        | bad er at' =>
          rw [hr] at h
          obtain ⟨z1, h⟩ := h
          exact ⟨z1, e_oneP l i L lo d k (by omega) g0 er at' z1 h⟩
      · rw [if_neg g0]
        have wlo : IntKind.i64.wrap (lo + 1) = lo + 1 := Go.Rx.wrap_i64 (by omega) (by omega)
        have h := ih2 i (lo + 1) d hi (by omega) (by omega) (by omega) hd0 hd k (by omega)
        have hf := fi2 i (lo + 1) d hi (by omega) (by omega) (by omega)
        cases hr : exprS l L M i (lo + 1) d with
        | bad er at' =>
          rw [hr] at h
          rw [← wlo] at h
          obtain ⟨z1, h⟩ := h
          exact ⟨z1, e_firstP l i L lo d k (by omega) g0 er at' z1 h⟩
        | tree x j =>
          rw [hr] at h hf
          rw [← wlo] at h
          dsimp only
          replace h : icall Try.prog cfg k 21 [.ptr (.arg 0) 0, .d (.int .i64 (IntKind.i64.wrap (lo + 1))), .d (.int .i64 d)] (paZ l (i : Int) L) = some (.ret x.av, paZ l (j : Int) L) := h
          have hx : POk l i j x := hf
          obtain ⟨oc, hoc, hrun⟩ := par5_loop l L hl lo d i k (by omega) (fun q => exprS l L M q (lo + 1) (d + 1)) (fun i' hi' hil' => by
            have e1 := ih2 (i' + 1) (lo + 1) (d + 1) (by omega) (by omega) (by omega) (by omega) (by omega) (by omega) k (by omega)
            have e2 := fi2 (i' + 1) (lo + 1) (d + 1) (by omega) (by omega) (by omega) (by omega)
            have hz1 : IntKind.i64.wrap ((i' : Int) + 1) = ((i' + 1 : Nat) : Int) := by rw [Go.Rx.wrap_i64 (by omega) (by omega)]; omega
            refine ⟨?_, e2⟩
            rw [hz1, wlo, wd d hd0 (by omega)]
            exact e1) (lp := _) rfl l.length j 1 0 x (by omega) (by omega) (.inl rfl) (by omega) (by omega) hx
          have hrun' : ∀ lp, lp = lpOf Try.prog cfg (icall Try.prog cfg k) Try.f21.ntmps 21 k ((paZ l 0 0).map (·.1)) → ∀ st, prune [Nm.arg 0] [0, 1, 2, 6, 7, 8] st = some (SX 0 l (j : Int) L lo d 1 x) → loopK Try.prog cfg (icall Try.prog cfg k) lp Try.f21.ntmps 21 [Nm.arg 0] (bodyAt Try.f21 6) k st (exitP [Nm.arg 0] (some [6])) = some oc := fun lp hlp st hp => by subst hlp; exact hrun k st (by omega) hp
          rw [show decide ((1 : Int) > 1) = false from rfl] at hoc
          cases hlo : loopS (fun q => exprS l L M q (lo + 1) (d + 1)) l lo l.length j x false with
          | tree x' j' =>
            rw [hlo] at hoc
            obtain ⟨v, hv, hs, rfl⟩ := hoc
            match v, hv, hs, hrun' with
            | 0, _, _, hrun' => exact e_first0 l i L lo d k (by omega) g0 x j h x' j' hrun'
            | 1, _, hs, hrun' =>
              rcases hs with h' | ⟨q, kl, rfl, hkl⟩
              · cases h'
              · exact e_first1 l i L lo d k (by omega) g0 x j h q kl hkl j' hrun'
            | 2, _, hs, hrun' =>
              rcases hs with h' | ⟨q, kl, rfl, hkl⟩
              · cases h'
              · exact e_first2 l i L lo d k (by omega) g0 x j h q kl hkl j' hrun'
          | bad er at' =>
            rw [hlo] at hoc
            obtain ⟨v, x', z2, fr, hv, hs, rfl⟩ := hoc
            match v, hv, hs, hrun' with
            | 0, _, _, hrun' => exact ⟨z2, e_firstP0 l i L lo d k (by omega) g0 x j h x' er at' z2 fr hrun'⟩
            | 1, _, hs, hrun' =>
              rcases hs with h' | ⟨q, kl, rfl, hkl⟩
              · cases h'
              · exact ⟨z2, e_firstP1 l i L lo d k (by omega) g0 x j h q kl hkl er at' z2 fr hrun'⟩
            | 2, _, hs, hrun' =>
              rcases hs with h' | ⟨q, kl, rfl, hkl⟩
              · cases h'
              · exact ⟨z2, e_firstP2 l i L lo d k (by omega) g0 x j h q kl hkl er at' z2 fr hrun'⟩
end Go.Rx07.P
