/- A part of the proof of the law: what functions of the program come to, walked by Rx, or plain facts on it. -/
import Derived.Test.YtbeppoonnbfdeaaRPar3
open Go Go.Rx Go.Proofs Go.Rx07.P Go.RxTree
set_option maxRecDepth 1000000
set_option maxHeartbeats 4000000
set_option linter.unusedVariables false
set_option linter.unusedSimpArgs false
namespace Go.Rx07.P
def SX (v : Nat) (l : List W) (z e lo d n : Int) (x : T) : St := match v with
  | 0 => ⟨[(0, .ptr (.arg 0) 0), (1, .d (.int .i64 lo)), (2, .d (.int .i64 d)), (6, .ptr (.slot 6) 0), (7, .ptr (.slot 7) 0), (8, .d (.int .i64 n))], [(.arg 0, .cells [.d (.list (l.map W.cells)), .d (.int .i64 z), .d (.int .i64 e)]), (.slot 6, .cells [.d (.int .i64 0), .d (.int .i64 0), .d (.str []), .nilsl]), (.slot 7, .cells [.d (.int .i64 x.kind), .d (.int .i64 x.n), .d (.str x.name), .d (.list (cellsL x.kids))])]⟩
  | 1 => ⟨[(0, .ptr (.arg 0) 0), (1, .d (.int .i64 lo)), (2, .d (.int .i64 d)), (6, .ptr (.slot 6) 0), (7, .ptr (.slot 7) 0), (8, .d (.int .i64 n))], [(.arg 0, .cells [.d (.list (l.map W.cells)), .d (.int .i64 z), .d (.int .i64 e)]), (.slot 6, .cells [.d (.int .i64 0), .d (.int .i64 0), .d (.str []), .nilsl]), (.slot 7, .cells [.d (.int .i64 x.kind), .d (.int .i64 0), .d (.str []), .own (.slot 57) 0 2]), ((.slot 57), .arr 25 4 0 (cellsL x.kids))]⟩
  | _ => ⟨[(0, .ptr (.arg 0) 0), (1, .d (.int .i64 lo)), (2, .d (.int .i64 d)), (6, .ptr (.slot 6) 0), (7, .ptr (.slot 7) 0), (8, .d (.int .i64 n))], [(.arg 0, .cells [.d (.list (l.map W.cells)), .d (.int .i64 z), .d (.int .i64 e)]), (.slot 6, .cells [.d (.int .i64 0), .d (.int .i64 0), .d (.str []), .nilsl]), (.slot 7, .cells [.d (.int .i64 x.kind), .d (.int .i64 0), .d (.str []), .own (.cell (.slot 57) 0) 0 2]), ((.cell (.slot 57) 0), .arr 25 4 0 (cellsL x.kids))]⟩
def RX (v : Nat) (l : List W) (z e : Int) (x : T) : Fx × St := match v with
  | 0 => (.ret, ⟨[(6, .ptr (.slot 6) 0)], [(.arg 0, .cells [.d (.list (l.map W.cells)), .d (.int .i64 z), .d (.int .i64 e)]), (.slot 6, .cells [.d (.int .i64 x.kind), .d (.int .i64 x.n), .d (.str x.name), .d (.list (cellsL x.kids))])]⟩)
  | 1 => (.ret, ⟨[(6, .ptr (.slot 6) 0)], [(.arg 0, .cells [.d (.list (l.map W.cells)), .d (.int .i64 z), .d (.int .i64 e)]), (.slot 6, .cells [.d (.int .i64 x.kind), .d (.int .i64 0), .d (.str []), .own (.slot 57) 0 2]), ((.slot 57), .arr 25 4 0 (cellsL x.kids))]⟩)
  | _ => (.ret, ⟨[(6, .ptr (.slot 6) 0)], [(.arg 0, .cells [.d (.list (l.map W.cells)), .d (.int .i64 z), .d (.int .i64 e)]), (.slot 6, .cells [.d (.int .i64 x.kind), .d (.int .i64 0), .d (.str []), .own (.cell (.slot 57) 0) 0 2]), ((.cell (.slot 57) 0), .arr 25 4 0 (cellsL x.kids))]⟩)
def PX (v : Nat) (l : List W) (er at' z e : Int) (x : T) (fr : Fr) : Fx × St := match v with
  | 0 => (.pan (.iface 28 (.agg [.d (.int .i64 er), .d (.int .i64 at')])), ⟨fr, [(.arg 0, .cells [.d (.list (l.map W.cells)), .d (.int .i64 z), .d (.int .i64 e)]), (.slot 6, .cells [.d (.int .i64 0), .d (.int .i64 0), .d (.str []), .nilsl]), (.slot 7, .cells [.d (.int .i64 x.kind), .d (.int .i64 x.n), .d (.str x.name), .d (.list (cellsL x.kids))])]⟩)
  | 1 => (.pan (.iface 28 (.agg [.d (.int .i64 er), .d (.int .i64 at')])), ⟨fr, [(.arg 0, .cells [.d (.list (l.map W.cells)), .d (.int .i64 z), .d (.int .i64 e)]), (.slot 6, .cells [.d (.int .i64 0), .d (.int .i64 0), .d (.str []), .nilsl]), (.slot 7, .cells [.d (.int .i64 x.kind), .d (.int .i64 0), .d (.str []), .own (.slot 57) 0 2]), ((.slot 57), .arr 25 4 0 (cellsL x.kids))]⟩)
  | _ => (.pan (.iface 28 (.agg [.d (.int .i64 er), .d (.int .i64 at')])), ⟨fr, [(.arg 0, .cells [.d (.list (l.map W.cells)), .d (.int .i64 z), .d (.int .i64 e)]), (.slot 6, .cells [.d (.int .i64 0), .d (.int .i64 0), .d (.str []), .nilsl]), (.slot 7, .cells [.d (.int .i64 x.kind), .d (.int .i64 0), .d (.str []), .own (.cell (.slot 57) 0) 0 2]), ((.cell (.slot 57) 0), .arr 25 4 0 (cellsL x.kids))]⟩)
/-- What the parser reads, from word i up to word j. -/
structure POk (l : List W) (i j : Nat) (x : T) : Prop where
  lt : i < j
  le : j ≤ l.length
  ok : x.Ok
  sm : x.Sm
  wt : x.wt + 1 ≤ 5000 * (j - i)
/-- A call of the parser's comes to a tree, or panics with a fault that lies in the text. -/
def Out (l : List W) (e : Int) (i : Nat) (r : Option (Res × Hp)) : Prop :=
  (∃ (x : T) (j : Nat) (z : Int), z = (j : Int) ∧ POk l i j x ∧ r = some (.ret x.av, paZ l z e)) ∨
  (∃ (er at' z : Int), (er = 3 ∨ er = 6) ∧ 0 ≤ at' ∧ at' ≤ e ∧ r = some (.pan (.iface 28 (.agg [.d (.int .i64 er), .d (.int .i64 at')])), paZ l z e))
def Shp (v : Nat) (x : T) : Prop := v = 0 ∨ ∃ q kl, x = T.mk q 0 [] kl ∧ kl.length = 2
def LOut (l : List W) (e : Int) (i : Nat) (oc : Fx × St) : Prop :=
  (∃ (v : Nat) (x : T) (j : Nat) (z : Int), v ≤ 2 ∧ Shp v x ∧ z = (j : Int) ∧ POk l i j x ∧ oc = RX v l z e x) ∨
  (∃ (v : Nat) (x : T) (er at' z : Int) (fr : Fr), v ≤ 2 ∧ Shp v x ∧ (er = 3 ∨ er = 6) ∧ 0 ≤ at' ∧ at' ≤ e ∧ oc = PX v l er at' z e x fr)
theorem atL_b {l : List W} {L : Nat} (hg : ∀ w ∈ l, w.Good L) (i : Nat) : 0 ≤ atL l i L ∧ atL l i L ≤ L := by
  unfold atL
  cases h : l[i]? with
  | none => exact ⟨Int.natCast_nonneg L, Int.le_refl _⟩
  | some w =>
    obtain ⟨_, _, _, h1, h2⟩ := hg w (List.mem_of_getElem? h)
    exact ⟨h1, h2⟩
theorem signL_lt {l : List W} {i : Nat} (h : signL l i ≠ []) : i < l.length := by
  apply Decidable.byContradiction
  intro hn
  unfold signL at h
  rw [List.getElem?_eq_none (by omega)] at h
  exact h rfl
theorem cells2 (x y : T) : cellsL [x, y] = [[.int .i64 x.kind, .int .i64 x.n, .str x.name, .list (cellsL x.kids)], [.int .i64 y.kind, .int .i64 y.n, .str y.name, .list (cellsL y.kids)]] := by
  cases x; cases y; rfl
theorem two_pok {l : List W} {i j k : Nat} {x y : T} (q : Int) (hq : (Lit.int .i64 q).wf = true) (hx : POk l i j x) (hy : POk l (j + 1) k y) : POk l i k (T.mk q 0 [] [x, y]) := by
  obtain ⟨a1, a2, a3, a4, a5⟩ := hx
  obtain ⟨b1, b2, b3, b4, b5⟩ := hy
  refine ⟨by omega, b2, ⟨hq, by decide, by simp, by simp [maxLen], a3, b3, trivial⟩, ⟨by simp, a4, b4, trivial⟩, ?_⟩
  simp only [T.wt, wtL, List.length_nil]
  have : 5000 * (k - i) = 5000 * (j - i) + 5000 * (k - (j + 1)) + 5000 := by omega
  omega
theorem twoK_wf (s : List UInt8) : (Lit.int .i64 (twoK s)).wf = true := by
  unfold twoK
  repeat' split
  all_goals decide
theorem par_loop (l : List W) (L : Nat) (hg : ∀ w ∈ l, w.Good L) (hl : l.length ≤ 100000) (lo d : Int) (i0 k : Nat) (hk : 3 < k)
    (ihe : ∀ i z, i0 < i → i < l.length → z = (i : Int) → Out l L (i + 1) (icall Try.prog cfg k 21 [.ptr (.arg 0) 0, .d (.int .i64 (IntKind.i64.wrap (lo + 1))), .d (.int .i64 (IntKind.i64.wrap (d + 1)))] (paZ l (IntKind.i64.wrap (z + 1)) L)))
    {lp : LP} (hlp : lp = lpOf Try.prog cfg (icall Try.prog cfg k) Try.f21.ntmps 21 k ((paZ l 0 0).map (·.1))) :
    ∀ (m i : Nat) (z n : Int) (v : Nat) (x : T), l.length - i ≤ m → v ≤ 2 → Shp v x → z = (i : Int) → POk l i0 i x →
      ∃ oc, LOut l L i0 oc ∧ ∀ (lf : Nat) (st : St), m + 1 < lf → prune [Nm.arg 0] [0, 1, 2, 6, 7, 8] st = some (SX v l z L lo d n x) → loopK Try.prog cfg (icall Try.prog cfg k) lp Try.f21.ntmps 21 [Nm.arg 0] (bodyAt Try.f21 6) lf st (exitP [Nm.arg 0] (some [6])) = some oc := by
  intro m
  induction m with
  | zero =>
    intro i z n v x hm hv hs hz hx
    have hil := hx.le
    have hsg : signL l i = [] := by
      apply Decidable.byContradiction
      intro h
      have := signL_lt h
      omega
    have hex : twoK (signL l i) = 0 ∨ levelK (twoK (signL l i)) ≠ lo ∨ (lo = 3 ∧ n > 1) := .inl (by rw [hsg]; rfl)
    refine ⟨RX v l z L x, .inl ⟨v, x, i, z, hv, hs, hz, hx, rfl⟩, fun lf st hlf hp => ?_⟩
    obtain ⟨lf, rfl⟩ : ∃ n, lf = n + 1 := ⟨lf - 1, by omega⟩
    match v, hv, hs with
    | 0, _, _ => exact l_exit0 l i z L lo d n hz k hk x hex hlp lf st hp
    | 1, _, hs =>
      rcases hs with h | ⟨q, kl, rfl, hkl⟩
      · cases h
      · exact l_exit1 l i z L lo d n hz k hk q kl hkl hex hlp lf st hp
    | 2, _, hs =>
      rcases hs with h | ⟨q, kl, rfl, hkl⟩
      · cases h
      · exact l_exit2 l i z L lo d n hz k hk q kl hkl hex hlp lf st hp
  | succ m ihm =>
    intro i z n v x hm hv hs hz hx
    by_cases hex : twoK (signL l i) = 0 ∨ levelK (twoK (signL l i)) ≠ lo ∨ (lo = 3 ∧ n > 1)
    · refine ⟨RX v l z L x, .inl ⟨v, x, i, z, hv, hs, hz, hx, rfl⟩, fun lf st hlf hp => ?_⟩
      obtain ⟨lf, rfl⟩ : ∃ n, lf = n + 1 := ⟨lf - 1, by omega⟩
      match v, hv, hs with
      | 0, _, _ => exact l_exit0 l i z L lo d n hz k hk x hex hlp lf st hp
      | 1, _, hs =>
        rcases hs with h | ⟨q, kl, rfl, hkl⟩
        · cases h
        · exact l_exit1 l i z L lo d n hz k hk q kl hkl hex hlp lf st hp
      | 2, _, hs =>
        rcases hs with h | ⟨q, kl, rfl, hkl⟩
        · cases h
        · exact l_exit2 l i z L lo d n hz k hk q kl hkl hex hlp lf st hp
    · have g1 : twoK (signL l i) ≠ 0 := fun h => hex (.inl h)
      have g2 : levelK (twoK (signL l i)) = lo := Decidable.byContradiction fun h => hex (.inr (.inl h))
      have g3 : ¬ (lo = 3 ∧ n > 1) := fun h => hex (.inr (.inr h))
      have hil : i < l.length := signL_lt (fun h => g1 (by rw [h]; rfl))
      have hi0 := hx.lt
      rcases ihe i z hi0 hil hz with ⟨y, j, z1, hz1, hy, hc⟩ | ⟨er, at', z1, he, h0, h1, hc⟩
      · have hxy := two_pok (twoK (signL l i)) (twoK_wf _) hx hy
        have hj := hy.lt
        have key : ∀ v', v' ≤ 2 → v' ≠ 0 → _ := fun v' hv' _ => ihm j z1 (IntKind.i64.wrap (n + 1)) v' (T.mk (twoK (signL l i)) 0 [] [x, y]) (by omega) hv' (.inr ⟨_, _, rfl, rfl⟩) hz1 hxy
        match v, hv, hs with
        | 0, _, _ =>
          obtain ⟨oc, h1, h2⟩ := key 1 (by omega) (by omega)
          refine ⟨oc, h1, fun lf st hlf hp => ?_⟩
          obtain ⟨lf, rfl⟩ : ∃ n, lf = n + 1 := ⟨lf - 1, by omega⟩
          refine l_next0 l i z L lo d n hz k hk x y z1 _ rfl g1 g2 g3 hc hlp lf st hp _ (fun st' hp' => h2 lf st' (by omega) ?_)
          rw [hp']
          show some _ = some (⟨[(0, .ptr (.arg 0) 0), (1, .d (.int .i64 lo)), (2, .d (.int .i64 d)), (6, .ptr (.slot 6) 0), (7, .ptr (.slot 7) 0), (8, .d (.int .i64 (IntKind.i64.wrap (n + 1))))], [(.arg 0, .cells [.d (.list (l.map W.cells)), .d (.int .i64 z1), .d (.int .i64 L)]), (.slot 6, .cells [.d (.int .i64 0), .d (.int .i64 0), .d (.str []), .nilsl]), (.slot 7, .cells [.d (.int .i64 (twoK (signL l i))), .d (.int .i64 0), .d (.str []), .own (.slot 57) 0 2]), ((.slot 57), .arr 25 4 0 (cellsL [x, y]))]⟩ : St)
          rw [cells2]
        | 1, _, hs =>
          rcases hs with h | ⟨q, kl, rfl, hkl⟩
          · cases h
          obtain ⟨oc, h1, h2⟩ := key 2 (by omega) (by omega)
          refine ⟨oc, h1, fun lf st hlf hp => ?_⟩
          obtain ⟨lf, rfl⟩ : ∃ n, lf = n + 1 := ⟨lf - 1, by omega⟩
          refine l_next1 l i z L lo d n hz k hk q kl hkl y z1 _ rfl g1 g2 g3 hc hlp lf st hp _ (fun st' hp' => h2 lf st' (by omega) ?_)
          rw [hp', List.take_of_length_le (by rw [cellsL_len]; omega)]
          show some _ = some (⟨[(0, .ptr (.arg 0) 0), (1, .d (.int .i64 lo)), (2, .d (.int .i64 d)), (6, .ptr (.slot 6) 0), (7, .ptr (.slot 7) 0), (8, .d (.int .i64 (IntKind.i64.wrap (n + 1))))], [(.arg 0, .cells [.d (.list (l.map W.cells)), .d (.int .i64 z1), .d (.int .i64 L)]), (.slot 6, .cells [.d (.int .i64 0), .d (.int .i64 0), .d (.str []), .nilsl]), (.slot 7, .cells [.d (.int .i64 (twoK (signL l i))), .d (.int .i64 0), .d (.str []), .own (.cell (.slot 57) 0) 0 2]), ((.cell (.slot 57) 0), .arr 25 4 0 (cellsL [T.mk q 0 [] kl, y]))]⟩ : St)
          rw [cells2]; rfl
        | 2, _, hs =>
          rcases hs with h | ⟨q, kl, rfl, hkl⟩
          · cases h
          obtain ⟨oc, h1, h2⟩ := key 1 (by omega) (by omega)
          refine ⟨oc, h1, fun lf st hlf hp => ?_⟩
          obtain ⟨lf, rfl⟩ : ∃ n, lf = n + 1 := ⟨lf - 1, by omega⟩
          refine l_next2 l i z L lo d n hz k hk q kl hkl y z1 _ rfl g1 g2 g3 hc hlp lf st hp _ (fun st' hp' => h2 lf st' (by omega) ?_)
          rw [hp', List.take_of_length_le (by rw [cellsL_len]; omega)]
          show some _ = some (⟨[(0, .ptr (.arg 0) 0), (1, .d (.int .i64 lo)), (2, .d (.int .i64 d)), (6, .ptr (.slot 6) 0), (7, .ptr (.slot 7) 0), (8, .d (.int .i64 (IntKind.i64.wrap (n + 1))))], [(.arg 0, .cells [.d (.list (l.map W.cells)), .d (.int .i64 z1), .d (.int .i64 L)]), (.slot 6, .cells [.d (.int .i64 0), .d (.int .i64 0), .d (.str []), .nilsl]), (.slot 7, .cells [.d (.int .i64 (twoK (signL l i))), .d (.int .i64 0), .d (.str []), .own (.slot 57) 0 2]), ((.slot 57), .arr 25 4 0 (cellsL [T.mk q 0 [] kl, y]))]⟩ : St)
          rw [cells2]; rfl
      · match v, hv, hs with
        | 0, _, hs =>
          obtain ⟨fr, hfr⟩ := l_pan0 l i z L lo d n hz k hk x er at' z1 _ rfl g1 g2 g3 hc hlp
          refine ⟨PX 0 l er at' z1 L x fr, .inr ⟨0, x, er, at', z1, fr, by omega, hs, he, h0, h1, rfl⟩, fun lf st hlf hp => ?_⟩
          obtain ⟨lf, rfl⟩ : ∃ n, lf = n + 1 := ⟨lf - 1, by omega⟩
          exact hfr lf st hp
        | 1, _, hs =>
          rcases hs with h | ⟨q, kl, rfl, hkl⟩
          · cases h
          obtain ⟨fr, hfr⟩ := l_pan1 l i z L lo d n hz k hk q kl hkl er at' z1 _ rfl g1 g2 g3 hc hlp
          refine ⟨PX 1 l er at' z1 L (T.mk q 0 [] kl) fr, .inr ⟨1, _, er, at', z1, fr, by omega, .inr ⟨q, kl, rfl, hkl⟩, he, h0, h1, rfl⟩, fun lf st hlf hp => ?_⟩
          obtain ⟨lf, rfl⟩ : ∃ n, lf = n + 1 := ⟨lf - 1, by omega⟩
          exact hfr lf st hp
        | 2, _, hs =>
          rcases hs with h | ⟨q, kl, rfl, hkl⟩
          · cases h
          obtain ⟨fr, hfr⟩ := l_pan2 l i z L lo d n hz k hk q kl hkl er at' z1 _ rfl g1 g2 g3 hc hlp
          refine ⟨PX 2 l er at' z1 L (T.mk q 0 [] kl) fr, .inr ⟨2, _, er, at', z1, fr, by omega, .inr ⟨q, kl, rfl, hkl⟩, he, h0, h1, rfl⟩, fun lf st hlf hp => ?_⟩
          obtain ⟨lf, rfl⟩ : ∃ n, lf = n + 1 := ⟨lf - 1, by omega⟩
          exact hfr lf st hp
theorem word_pok {l : List W} {L i : Nat} {w : W} (hw : l[i]? = some w) (hg : w.Good L) : POk l i (i + 1) (if w.k = 1 then T.mk 1 w.n [] [] else if w.t = [121, 101, 115] then T.mk 3 0 [] [] else if w.t = [110, 111] then T.mk 4 0 [] [] else T.mk 2 0 w.t []) := by
  obtain ⟨a1, a2, a3, a4, a5⟩ := hg
  have hi := (List.getElem?_eq_some_iff.1 hw).1
  have h5 : 5000 * (i + 1 - i) = 5000 := by omega
  have hm : 4096 ≤ maxLen := by decide
  refine ⟨by omega, by omega, ?_, ?_, ?_⟩
  · split
    · exact ⟨by decide, by rw [wf_i64]; omega, by simp, by simp, trivial⟩
    · split
      · exact ⟨by decide, by decide, by simp, by simp, trivial⟩
      · split
        · exact ⟨by decide, by decide, by simp, by simp, trivial⟩
        · exact ⟨by decide, by decide, by omega, by simp, trivial⟩
  · split
    · exact ⟨by simp, trivial⟩
    · split
      · exact ⟨by simp, trivial⟩
      · split
        · exact ⟨by simp, trivial⟩
        · exact ⟨by omega, trivial⟩
  · rw [h5]
    split
    · simp [T.wt, wtL]
    · split
      · simp [T.wt, wtL]
      · split
        · simp [T.wt, wtL]
        · simp [T.wt, wtL]; omega
theorem par (l : List W) (L : Nat) (hg : ∀ w ∈ l, w.Good L) (hl : l.length ≤ 100000) : ∀ (M : Nat),
    (∀ (i : Nat) (z d : Int), z = (i : Int) → i ≤ l.length → 8 * (l.length - i) + 1 ≤ M → 0 ≤ d → d + ((l.length - i : Nat) : Int) ≤ 1000000 → ∀ k, M + l.length + 40 < k → Out l L i (icall Try.prog cfg k 32 [.ptr (.arg 0) 0, .d (.int .i64 d)] (paZ l z L))) ∧
    (∀ (i : Nat) (z lo d : Int), z = (i : Int) → i ≤ l.length → 1 ≤ lo → lo ≤ 6 → 8 * ((l.length - i : Nat) : Int) + 8 - lo ≤ M → 0 ≤ d → d + ((l.length - i : Nat) : Int) ≤ 1000000 → ∀ k, M + l.length + 40 < k → Out l L i (icall Try.prog cfg k 21 [.ptr (.arg 0) 0, .d (.int .i64 lo), .d (.int .i64 d)] (paZ l z L))) := by
  intro M
  induction M with
  | zero => exact ⟨fun i z d hz hi hM => by omega, fun i z lo d hz hi h1 h6 hM => by omega⟩
  | succ M ih =>
    obtain ⟨ih1, ih2⟩ := ih
    have wd : ∀ d : Int, 0 ≤ d → d ≤ 1000001 → IntKind.i64.wrap (d + 1) = d + 1 := fun d h1 h2 => Go.Rx.wrap_i64 (by omega) (by omega)
    refine ⟨fun i z d hz hi hM hd0 hd k hk => ?_, fun i z lo d hz hi h1 h6 hM hd0 hd k hk => ?_⟩
    · obtain ⟨k, rfl⟩ : ∃ j, k = j + 1 := ⟨k - 1, by omega⟩
      have hb := atL_b hg i
      have hz1 : IntKind.i64.wrap (z + 1) = ((i + 1 : Nat) : Int) := by rw [Go.Rx.wrap_i64 (by omega) (by omega)]; omega
      by_cases g0 : d > 16
      · exact .inr ⟨6, _, z, .inr rfl, hb.1, hb.2, o_lim l i z L d hz k (by omega) g0⟩
      by_cases g1 : signL l i = [45] ∨ signL l i = [33]
      · have hil : i < l.length := signL_lt (by rcases g1 with g | g <;> rw [g] <;> simp)
        obtain ⟨c, kk, hs, hc⟩ : ∃ c kk, signL l i = [c] ∧ ((c = 45 ∧ kk = (5 : Int)) ∨ (c = 33 ∧ kk = 6)) := by
          rcases g1 with g | g
          · exact ⟨45, 5, g, .inl ⟨rfl, rfl⟩⟩
          · exact ⟨33, 6, g, .inr ⟨rfl, rfl⟩⟩
        rcases ih1 (i + 1) (IntKind.i64.wrap (z + 1)) (IntKind.i64.wrap (d + 1)) hz1 (by omega) (by omega) (by rw [wd d hd0 (by omega)]; omega) (by rw [wd d hd0 (by omega)]; omega) k (by omega) with ⟨x, j, z1, e1, hx, h⟩ | ⟨er, at', z1, he, a0, a1, h⟩
        · refine .inl ⟨T.mk kk 0 [] [x], j, z1, e1, ?_, o_un l i z L d hz k (by omega) g0 c kk hs hc x z1 h⟩
          obtain ⟨b1, b2, b3, b4, b5⟩ := hx
          refine ⟨by omega, b2, ⟨by rcases hc with ⟨_, rfl⟩ | ⟨_, rfl⟩ <;> decide, by decide, by simp, by simp [maxLen], b3, trivial⟩, ⟨by simp, b4, trivial⟩, ?_⟩
          simp only [T.wt, wtL, List.length_nil]
          omega
        · exact .inr ⟨er, at', z1, he, a0, a1, o_unP l i z L d hz k (by omega) g0 c hs (by rcases hc with ⟨h, _⟩ | ⟨h, _⟩; exact .inl h; exact .inr h) er at' z1 h⟩
      by_cases g2 : signL l i = [40]
      · have hil : i < l.length := signL_lt (by rw [g2]; simp)
        rcases ih2 (i + 1) (IntKind.i64.wrap (z + 1)) 1 (IntKind.i64.wrap (d + 1)) hz1 (by omega) (by omega) (by omega) (by omega) (by rw [wd d hd0 (by omega)]; omega) (by rw [wd d hd0 (by omega)]; omega) k (by omega) with ⟨x, j, z1, e1, hx, h⟩ | ⟨er, at', z1, he, a0, a1, h⟩
        · by_cases g3 : signL l j = [41]
          · have hjl : j < l.length := signL_lt (by rw [g3]; simp)
            refine .inl ⟨x, j + 1, IntKind.i64.wrap (z1 + 1), by rw [Go.Rx.wrap_i64 (by omega) (by omega)]; omega, ?_, o_br l i z L d hz k (by omega) g0 g2 x j z1 e1 h g3⟩
            obtain ⟨b1, b2, b3, b4, b5⟩ := hx
            exact ⟨by omega, by omega, b3, b4, by omega⟩
          · have hb := atL_b hg j
            exact .inr ⟨3, _, z1, .inl rfl, hb.1, hb.2, o_brF l i z L d hz k (by omega) g0 g2 x j z1 e1 h g3⟩
        · exact .inr ⟨er, at', z1, he, a0, a1, o_brP l i z L d hz k (by omega) g0 g2 er at' z1 h⟩
      by_cases g3 : signL l i ≠ [] ∨ l.length ≤ i
      · exact .inr ⟨3, _, z, .inl rfl, hb.1, hb.2, o_bad l i z L d hz k (by omega) g0 (fun h => g1 (.inl h)) (fun h => g1 (.inr h)) g2 g3⟩
      · have hil : i < l.length := by omega
        have hs : signL l i = [] := Decidable.byContradiction fun h => g3 (.inl h)
        have hw : l[i]? = some l[i] := List.getElem?_eq_getElem hil
        exact .inl ⟨_, i + 1, _, hz1, word_pok hw (hg _ (List.getElem_mem hil)), o_word l i z L d hz k (by omega) g0 hs _ hw⟩
    · obtain ⟨k, rfl⟩ : ∃ j, k = j + 1 := ⟨k - 1, by omega⟩
      by_cases g0 : lo > 5
      · rcases ih1 i z d hz hi (by omega) hd0 hd k (by omega) with ⟨x, j, z1, e1, hx, h⟩ | ⟨er, at', z1, he, a0, a1, h⟩
        · exact .inl ⟨x, j, z1, e1, hx, e_one l z L lo d k (by omega) g0 x z1 h⟩
        · exact .inr ⟨er, at', z1, he, a0, a1, e_oneP l z L lo d k (by omega) g0 er at' z1 h⟩
      · have wlo : IntKind.i64.wrap (lo + 1) = lo + 1 := Go.Rx.wrap_i64 (by omega) (by omega)
        rcases ih2 i z (IntKind.i64.wrap (lo + 1)) d hz hi (by omega) (by omega) (by omega) hd0 hd k (by omega) with ⟨x, j, z1, e1, hx, h⟩ | ⟨er, at', z1, he, a0, a1, h⟩
        · have hlp : ∀ lp, lp = lpOf Try.prog cfg (icall Try.prog cfg k) Try.f21.ntmps 21 k ((paZ l 0 0).map (·.1)) → _ := fun lp hlp => par_loop l L hg hl lo d i k (by omega) (fun i' z' hi' hil' hz' => ih2 (i' + 1) (IntKind.i64.wrap (z' + 1)) (IntKind.i64.wrap (lo + 1)) (IntKind.i64.wrap (d + 1)) (by rw [Go.Rx.wrap_i64 (by omega) (by omega)]; omega) (by omega) (by omega) (by omega) (by omega) (by rw [wd d hd0 (by omega)]; omega) (by rw [wd d hd0 (by omega)]; omega) k (by omega)) (lp := lp) hlp l.length j z1 1 0 x (by omega) (by omega) (.inl rfl) e1 hx
          obtain ⟨oc, hoc, hrun⟩ := hlp _ rfl
          have hrun' : ∀ lp, lp = lpOf Try.prog cfg (icall Try.prog cfg k) Try.f21.ntmps 21 k ((paZ l 0 0).map (·.1)) → ∀ st, prune [Nm.arg 0] [0, 1, 2, 6, 7, 8] st = some (SX 0 l z1 L lo d 1 x) → loopK Try.prog cfg (icall Try.prog cfg k) lp Try.f21.ntmps 21 [Nm.arg 0] (bodyAt Try.f21 6) k st (exitP [Nm.arg 0] (some [6])) = some oc := fun lp hlp st hp => by subst hlp; exact hrun k st (by omega) hp
          rcases hoc with ⟨v, x', j', z2, hv, hs, e2, hx', rfl⟩ | ⟨v, x', er, at', z2, fr, hv, hs, he, a0, a1, rfl⟩
          · match v, hv, hs, hrun' with
            | 0, _, _, hrun' => exact .inl ⟨x', j', z2, e2, hx', e_first0 l z L lo d k (by omega) g0 x z1 h x' z2 hrun'⟩
            | 1, _, hs, hrun' =>
              rcases hs with h' | ⟨q, kl, rfl, hkl⟩
              · cases h'
              · exact .inl ⟨_, j', z2, e2, hx', e_first1 l z L lo d k (by omega) g0 x z1 h q kl hkl z2 hrun'⟩
            | 2, _, hs, hrun' =>
              rcases hs with h' | ⟨q, kl, rfl, hkl⟩
              · cases h'
              · exact .inl ⟨_, j', z2, e2, hx', e_first2 l z L lo d k (by omega) g0 x z1 h q kl hkl z2 hrun'⟩
          · match v, hv, hs, hrun' with
            | 0, _, _, hrun' => exact .inr ⟨er, at', z2, he, a0, a1, e_firstP0 l z L lo d k (by omega) g0 x z1 h x' er at' z2 fr hrun'⟩
            | 1, _, hs, hrun' =>
              rcases hs with h' | ⟨q, kl, rfl, hkl⟩
              · cases h'
              · exact .inr ⟨er, at', z2, he, a0, a1, e_firstP1 l z L lo d k (by omega) g0 x z1 h q kl hkl er at' z2 fr hrun'⟩
            | 2, _, hs, hrun' =>
              rcases hs with h' | ⟨q, kl, rfl, hkl⟩
              · cases h'
              · exact .inr ⟨er, at', z2, he, a0, a1, e_firstP2 l z L lo d k (by omega) g0 x z1 h q kl hkl er at' z2 fr hrun'⟩
        · exact .inr ⟨er, at', z1, he, a0, a1, e_firstP l z L lo d k (by omega) g0 er at' z1 h⟩
end Go.Rx07.P
