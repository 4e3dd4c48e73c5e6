/- A part of the proof of the law: what functions of the program come to, walked by Rx, or plain facts on it. -/
import Derived.Test.YtbeppoonnbfdeaaRLex
import Derived.Test.YtbeppoonnbfdeaaRSpecL
open Go Go.Rx Go.Proofs Go.Rx07.P Go.RxTree
set_option maxRecDepth 1000000
set_option maxHeartbeats 4000000
set_option linter.unusedVariables false
set_option linter.unusedSimpArgs false
namespace Go.Rx07.P
theorem loop16N (s : List UInt8) (hs : s.length ≤ 4096) (z : Int) (j : Nat) (hj : 100 < j) {lp : LP} (hlp : lp = lpOf Try.prog cfg (icall Try.prog cfg j) Try.f19.ntmps 19 j (([] : Hp).map (·.1))) : ∀ (m i : Nat) (y nv : Int), s.length - i ≤ m → i ≤ s.length → y = (i : Int) → 0 ≤ nv → nv ≤ 9223372036854775807 →
    (∀ v b, numS i nv (s.drop i) = some (v, b) → ∀ lf st, m < lf → prune [] [0, 3, 4, 5, 6, 7] st = some ⟨[(0, .d (.str s)), (3, .ptr (.slot 3) 0), (4, .nilsl), (5, .d (.int .i64 z)), (6, .ptr (.slot 6) 0), (7, .d (.int .i64 y))], [(.slot 3, .cells [.d (.int .i64 0), .d (.int .i64 0)]), (.slot 6, .cells [.d (.int .i64 1), .d (.str []), .d (.int .i64 nv), .d (.int .i64 z)])]⟩ → loopK Try.prog cfg (icall Try.prog cfg j) lp Try.f19.ntmps 19 [] (bodyAt Try.f19 16) lf st (exitP [] (some [0, 2, 3, 4, 6, 7])) = some (.exit 8, ⟨[(0, .d (.str s)), (2, .undef), (3, .ptr (.slot 3) 0), (4, .nilsl), (6, .ptr (.slot 6) 0), (7, .d (.int .i64 (b : Int)))], [(.slot 3, .cells [.d (.int .i64 0), .d (.int .i64 0)]), (.slot 6, .cells [.d (.int .i64 1), .d (.str []), .d (.int .i64 v), .d (.int .i64 z)])]⟩)) ∧
    (numS i nv (s.drop i) = none → ∃ v y', ∀ lf st, m < lf → prune [] [0, 3, 4, 5, 6, 7] st = some ⟨[(0, .d (.str s)), (3, .ptr (.slot 3) 0), (4, .nilsl), (5, .d (.int .i64 z)), (6, .ptr (.slot 6) 0), (7, .d (.int .i64 y))], [(.slot 3, .cells [.d (.int .i64 0), .d (.int .i64 0)]), (.slot 6, .cells [.d (.int .i64 1), .d (.str []), .d (.int .i64 nv), .d (.int .i64 z)])]⟩ → loopK Try.prog cfg (icall Try.prog cfg j) lp Try.f19.ntmps 19 [] (bodyAt Try.f19 16) lf st (exitP [] (some [0, 2, 3, 4, 6, 7])) = some (.ret, ⟨[(0, .d (.str s)), (2, .nilsl), (3, .ptr (.slot 3) 0), (4, .nilsl), (6, .ptr (.slot 6) 0), (7, .d (.int .i64 y'))], [(.slot 3, .cells [.d (.int .i64 13), .d (.int .i64 z)]), (.slot 6, .cells [.d (.int .i64 1), .d (.str []), .d (.int .i64 v), .d (.int .i64 z)])]⟩)) := by
  intro m
  induction m with
  | zero =>
    intro i y nv hm hi hy h0 h1
    rw [List.drop_eq_nil_of_le (by omega), numS]
    refine ⟨fun v b h lf st hlf hp => ?_, fun h => (nomatch h)⟩
    obtain ⟨lf, rfl⟩ : ∃ n, lf = n + 1 := ⟨lf - 1, by omega⟩
    injection h with h; injection h with h2 h3; subst h2 h3
    rw [n_endN j hj s hs z y nv i hy (.inl (by omega)) hlp lf st hp, hy]
  | succ m ihm =>
    intro i y nv hm hi hy h0 h1
    by_cases he : s.length ≤ i
    · rw [List.drop_eq_nil_of_le he, numS]
      refine ⟨fun v b h lf st hlf hp => ?_, fun h => (nomatch h)⟩
      obtain ⟨lf, rfl⟩ : ∃ n, lf = n + 1 := ⟨lf - 1, by omega⟩
      injection h with h; injection h with h2 h3; subst h2 h3
      rw [n_endN j hj s hs z y nv i hy (.inl he) hlp lf st hp, hy]
    · have hx : s[i]? = some s[i] := List.getElem?_eq_getElem (by omega)
      rw [List.drop_eq_getElem_cons (show i < s.length by omega), numS]
      generalize s[i] = c at *
      by_cases hk : kindB c = 1
      · rw [if_pos hk]
        have hkd := kind_d hk
        have hd : 0 ≤ dig c ∧ dig c ≤ 9 := by unfold dig; omega
        by_cases hov : nv > ((9223372036854775807 : Int) - dig c).tdiv 10
        · rw [if_pos hov]
          refine ⟨fun v b h => (nomatch h), fun _ => ⟨nv, y, fun lf st hlf hp => ?_⟩⟩
          obtain ⟨lf, rfl⟩ : ∃ n, lf = n + 1 := ⟨lf - 1, by omega⟩
          exact n_ovfN j hj s hs z y nv i hy c hx hk hov hlp lf st hp
        · rw [if_neg hov]
          have hov' := hov
          rw [tdiv10 _ (by omega)] at hov'
          have e1 : IntKind.i64.wrap (IntKind.i64.wrap (nv * 10) + IntKind.i64.wrap (IntKind.u8.wrap ((c.toNat : Int) - 48))) = nv * 10 + dig c := by
            rw [digit hk, Go.Rx.wrap_i64 (n := nv * 10) (by omega) (by omega)]
            exact Go.Rx.wrap_i64 (by unfold dig at *; omega) (by unfold dig at *; omega)
          have e2 : IntKind.i64.wrap (y + 1) = ((i + 1 : Nat) : Int) := by rw [Go.Rx.wrap_i64 (by omega) (by omega)]; omega
          obtain ⟨g1, g2⟩ := ihm (i + 1) ((i + 1 : Nat) : Int) (nv * 10 + dig c) (by omega) (by omega) rfl (by omega) (by omega)
          refine ⟨fun v b h lf st hlf hp => ?_, fun h => ?_⟩
          · obtain ⟨lf, rfl⟩ : ∃ n, lf = n + 1 := ⟨lf - 1, by omega⟩
            exact n_nextN j hj s hs z y nv h0 i hy c hx hk hov hlp lf st hp _ (fun st' hp' => g1 v b h lf st' (by omega) (by rw [hp', e1, e2]))
          · obtain ⟨v, y', g2⟩ := g2 h
            refine ⟨v, y', fun lf st hlf hp => ?_⟩
            obtain ⟨lf, rfl⟩ : ∃ n, lf = n + 1 := ⟨lf - 1, by omega⟩
            exact n_nextN j hj s hs z y nv h0 i hy c hx hk hov hlp lf st hp _ (fun st' hp' => g2 lf st' (by omega) (by rw [hp', e1, e2]))
      · rw [if_neg hk]
        refine ⟨fun v b h lf st hlf hp => ?_, fun h => (nomatch h)⟩
        obtain ⟨lf, rfl⟩ : ∃ n, lf = n + 1 := ⟨lf - 1, by omega⟩
        injection h with h; injection h with h2 h3; subst h2 h3
        rw [n_endN j hj s hs z y nv i hy (.inr ⟨c, hx, hk⟩) hlp lf st hp, hy]
theorem loop24N (s : List UInt8) (hs : s.length ≤ 4096) (z : Int) (j : Nat) (hj : 100 < j) {lp : LP} (hlp : lp = lpOf Try.prog cfg (icall Try.prog cfg j) Try.f19.ntmps 19 j (([] : Hp).map (·.1))) : ∀ (m i : Nat) (y : Int), s.length - i ≤ m → i ≤ s.length → y = (i : Int) →
    ∀ lf st, m < lf → prune [] [0, 3, 4, 5, 6, 7] st = some ⟨[(0, .d (.str s)), (3, .ptr (.slot 3) 0), (4, .nilsl), (5, .d (.int .i64 z)), (6, .ptr (.slot 6) 0), (7, .d (.int .i64 y))], [(.slot 3, .cells [.d (.int .i64 0), .d (.int .i64 0)]), (.slot 6, .cells [.d (.int .i64 2), .d (.str []), .d (.int .i64 0), .d (.int .i64 z)])]⟩ → loopK Try.prog cfg (icall Try.prog cfg j) lp Try.f19.ntmps 19 [] (bodyAt Try.f19 24) lf st (exitP [] (some [0, 3, 4, 5, 6, 7])) = some (.exit 10, ⟨[(0, .d (.str s)), (3, .ptr (.slot 3) 0), (4, .nilsl), (5, .d (.int .i64 z)), (6, .ptr (.slot 6) 0), (7, .d (.int .i64 (nameS i (s.drop i) : Nat)))], [(.slot 3, .cells [.d (.int .i64 0), .d (.int .i64 0)]), (.slot 6, .cells [.d (.int .i64 2), .d (.str []), .d (.int .i64 0), .d (.int .i64 z)])]⟩) := by
  intro m
  induction m with
  | zero =>
    intro i y hm hi hy lf st hlf hp
    rw [List.drop_eq_nil_of_le (by omega), nameS]
    obtain ⟨lf, rfl⟩ : ∃ n, lf = n + 1 := ⟨lf - 1, by omega⟩
    rw [a_endN j hj s hs z y i hy (.inl (by omega)) hlp lf st hp, hy]
  | succ m ihm =>
    intro i y hm hi hy lf st hlf hp
    obtain ⟨lf, rfl⟩ : ∃ n, lf = n + 1 := ⟨lf - 1, by omega⟩
    by_cases he : s.length ≤ i
    · rw [List.drop_eq_nil_of_le he, nameS]
      rw [a_endN j hj s hs z y i hy (.inl he) hlp lf st hp, hy]
    · have hx : s[i]? = some s[i] := List.getElem?_eq_getElem (by omega)
      rw [List.drop_eq_getElem_cons (show i < s.length by omega), nameS]
      generalize s[i] = c at *
      by_cases hk : kindB c = 2 ∨ kindB c = 1
      · rw [if_pos hk]
        have e2 : IntKind.i64.wrap (y + 1) = ((i + 1 : Nat) : Int) := by rw [Go.Rx.wrap_i64 (by omega) (by omega)]; omega
        exact a_nextN j hj s hs z y i hy c hx hk hlp lf st hp _ (fun st' hp' => ihm (i + 1) ((i + 1 : Nat) : Int) (by omega) (by omega) rfl lf st' (by omega) (by rw [hp', e2]))
      · rw [if_neg hk]
        rw [a_endN j hj s hs z y i hy (.inr ⟨c, hx, fun h => hk (.inl h), fun h => hk (.inr h)⟩) hlp lf st hp, hy]
theorem loop16O (s : List UInt8) (hs : s.length ≤ 4096) (l : Nat) (es : List (List D)) (z : Int) (j : Nat) (hj : 100 < j) {lp : LP} (hlp : lp = lpOf Try.prog cfg (icall Try.prog cfg j) Try.f19.ntmps 19 j (([] : Hp).map (·.1))) : ∀ (m i : Nat) (y nv : Int), s.length - i ≤ m → i ≤ s.length → y = (i : Int) → 0 ≤ nv → nv ≤ 9223372036854775807 →
    (∀ v b, numS i nv (s.drop i) = some (v, b) → ∀ lf st, m < lf → prune [] [0, 3, 4, 5, 6, 7] st = some ⟨[(0, .d (.str s)), (3, .ptr (.slot 3) 0), (4, .own (.slot 124) 0 l), (5, .d (.int .i64 z)), (6, .ptr (.slot 6) 0), (7, .d (.int .i64 y))], [(.slot 3, .cells [.d (.int .i64 0), .d (.int .i64 0)]), (.slot 124, .arr 54 4 0 es), (.slot 6, .cells [.d (.int .i64 1), .d (.str []), .d (.int .i64 nv), .d (.int .i64 z)])]⟩ → loopK Try.prog cfg (icall Try.prog cfg j) lp Try.f19.ntmps 19 [] (bodyAt Try.f19 16) lf st (exitP [] (some [0, 2, 3, 4, 6, 7])) = some (.exit 8, ⟨[(0, .d (.str s)), (2, .undef), (3, .ptr (.slot 3) 0), (4, .own (.slot 124) 0 l), (6, .ptr (.slot 6) 0), (7, .d (.int .i64 (b : Int)))], [(.slot 3, .cells [.d (.int .i64 0), .d (.int .i64 0)]), (.slot 124, .arr 54 4 0 es), (.slot 6, .cells [.d (.int .i64 1), .d (.str []), .d (.int .i64 v), .d (.int .i64 z)])]⟩)) ∧
    (numS i nv (s.drop i) = none → ∃ v y', ∀ lf st, m < lf → prune [] [0, 3, 4, 5, 6, 7] st = some ⟨[(0, .d (.str s)), (3, .ptr (.slot 3) 0), (4, .own (.slot 124) 0 l), (5, .d (.int .i64 z)), (6, .ptr (.slot 6) 0), (7, .d (.int .i64 y))], [(.slot 3, .cells [.d (.int .i64 0), .d (.int .i64 0)]), (.slot 124, .arr 54 4 0 es), (.slot 6, .cells [.d (.int .i64 1), .d (.str []), .d (.int .i64 nv), .d (.int .i64 z)])]⟩ → loopK Try.prog cfg (icall Try.prog cfg j) lp Try.f19.ntmps 19 [] (bodyAt Try.f19 16) lf st (exitP [] (some [0, 2, 3, 4, 6, 7])) = some (.ret, ⟨[(0, .d (.str s)), (2, .nilsl), (3, .ptr (.slot 3) 0), (4, .own (.slot 124) 0 l), (6, .ptr (.slot 6) 0), (7, .d (.int .i64 y'))], [(.slot 3, .cells [.d (.int .i64 13), .d (.int .i64 z)]), (.slot 124, .arr 54 4 0 es), (.slot 6, .cells [.d (.int .i64 1), .d (.str []), .d (.int .i64 v), .d (.int .i64 z)])]⟩)) := by
  intro m
  induction m with
  | zero =>
    intro i y nv hm hi hy h0 h1
    rw [List.drop_eq_nil_of_le (by omega), numS]
    refine ⟨fun v b h lf st hlf hp => ?_, fun h => (nomatch h)⟩
    obtain ⟨lf, rfl⟩ : ∃ n, lf = n + 1 := ⟨lf - 1, by omega⟩
    injection h with h; injection h with h2 h3; subst h2 h3
    rw [n_endO j hj s hs l es z y nv i hy (.inl (by omega)) hlp lf st hp, hy]
  | succ m ihm =>
    intro i y nv hm hi hy h0 h1
    by_cases he : s.length ≤ i
    · rw [List.drop_eq_nil_of_le he, numS]
      refine ⟨fun v b h lf st hlf hp => ?_, fun h => (nomatch h)⟩
      obtain ⟨lf, rfl⟩ : ∃ n, lf = n + 1 := ⟨lf - 1, by omega⟩
      injection h with h; injection h with h2 h3; subst h2 h3
      rw [n_endO j hj s hs l es z y nv i hy (.inl he) hlp lf st hp, hy]
    · have hx : s[i]? = some s[i] := List.getElem?_eq_getElem (by omega)
      rw [List.drop_eq_getElem_cons (show i < s.length by omega), numS]
      generalize s[i] = c at *
      by_cases hk : kindB c = 1
      · rw [if_pos hk]
        have hkd := kind_d hk
        have hd : 0 ≤ dig c ∧ dig c ≤ 9 := by unfold dig; omega
        by_cases hov : nv > ((9223372036854775807 : Int) - dig c).tdiv 10
        · rw [if_pos hov]
          refine ⟨fun v b h => (nomatch h), fun _ => ⟨nv, y, fun lf st hlf hp => ?_⟩⟩
          obtain ⟨lf, rfl⟩ : ∃ n, lf = n + 1 := ⟨lf - 1, by omega⟩
          exact n_ovfO j hj s hs l es z y nv i hy c hx hk hov hlp lf st hp
        · rw [if_neg hov]
          have hov' := hov
          rw [tdiv10 _ (by omega)] at hov'
          have e1 : IntKind.i64.wrap (IntKind.i64.wrap (nv * 10) + IntKind.i64.wrap (IntKind.u8.wrap ((c.toNat : Int) - 48))) = nv * 10 + dig c := by
            rw [digit hk, Go.Rx.wrap_i64 (n := nv * 10) (by omega) (by omega)]
            exact Go.Rx.wrap_i64 (by unfold dig at *; omega) (by unfold dig at *; omega)
          have e2 : IntKind.i64.wrap (y + 1) = ((i + 1 : Nat) : Int) := by rw [Go.Rx.wrap_i64 (by omega) (by omega)]; omega
          obtain ⟨g1, g2⟩ := ihm (i + 1) ((i + 1 : Nat) : Int) (nv * 10 + dig c) (by omega) (by omega) rfl (by omega) (by omega)
          refine ⟨fun v b h lf st hlf hp => ?_, fun h => ?_⟩
          · obtain ⟨lf, rfl⟩ : ∃ n, lf = n + 1 := ⟨lf - 1, by omega⟩
            exact n_nextO j hj s hs l es z y nv h0 i hy c hx hk hov hlp lf st hp _ (fun st' hp' => g1 v b h lf st' (by omega) (by rw [hp', e1, e2]))
          · obtain ⟨v, y', g2⟩ := g2 h
            refine ⟨v, y', fun lf st hlf hp => ?_⟩
            obtain ⟨lf, rfl⟩ : ∃ n, lf = n + 1 := ⟨lf - 1, by omega⟩
            exact n_nextO j hj s hs l es z y nv h0 i hy c hx hk hov hlp lf st hp _ (fun st' hp' => g2 lf st' (by omega) (by rw [hp', e1, e2]))
      · rw [if_neg hk]
        refine ⟨fun v b h lf st hlf hp => ?_, fun h => (nomatch h)⟩
        obtain ⟨lf, rfl⟩ : ∃ n, lf = n + 1 := ⟨lf - 1, by omega⟩
        injection h with h; injection h with h2 h3; subst h2 h3
        rw [n_endO j hj s hs l es z y nv i hy (.inr ⟨c, hx, hk⟩) hlp lf st hp, hy]
theorem loop24O (s : List UInt8) (hs : s.length ≤ 4096) (l : Nat) (es : List (List D)) (z : Int) (j : Nat) (hj : 100 < j) {lp : LP} (hlp : lp = lpOf Try.prog cfg (icall Try.prog cfg j) Try.f19.ntmps 19 j (([] : Hp).map (·.1))) : ∀ (m i : Nat) (y : Int), s.length - i ≤ m → i ≤ s.length → y = (i : Int) →
    ∀ lf st, m < lf → prune [] [0, 3, 4, 5, 6, 7] st = some ⟨[(0, .d (.str s)), (3, .ptr (.slot 3) 0), (4, .own (.slot 124) 0 l), (5, .d (.int .i64 z)), (6, .ptr (.slot 6) 0), (7, .d (.int .i64 y))], [(.slot 3, .cells [.d (.int .i64 0), .d (.int .i64 0)]), (.slot 124, .arr 54 4 0 es), (.slot 6, .cells [.d (.int .i64 2), .d (.str []), .d (.int .i64 0), .d (.int .i64 z)])]⟩ → loopK Try.prog cfg (icall Try.prog cfg j) lp Try.f19.ntmps 19 [] (bodyAt Try.f19 24) lf st (exitP [] (some [0, 3, 4, 5, 6, 7])) = some (.exit 10, ⟨[(0, .d (.str s)), (3, .ptr (.slot 3) 0), (4, .own (.slot 124) 0 l), (5, .d (.int .i64 z)), (6, .ptr (.slot 6) 0), (7, .d (.int .i64 (nameS i (s.drop i) : Nat)))], [(.slot 3, .cells [.d (.int .i64 0), .d (.int .i64 0)]), (.slot 124, .arr 54 4 0 es), (.slot 6, .cells [.d (.int .i64 2), .d (.str []), .d (.int .i64 0), .d (.int .i64 z)])]⟩) := by
  intro m
  induction m with
  | zero =>
    intro i y hm hi hy lf st hlf hp
    rw [List.drop_eq_nil_of_le (by omega), nameS]
    obtain ⟨lf, rfl⟩ : ∃ n, lf = n + 1 := ⟨lf - 1, by omega⟩
    rw [a_endO j hj s hs l es z y i hy (.inl (by omega)) hlp lf st hp, hy]
  | succ m ihm =>
    intro i y hm hi hy lf st hlf hp
    obtain ⟨lf, rfl⟩ : ∃ n, lf = n + 1 := ⟨lf - 1, by omega⟩
    by_cases he : s.length ≤ i
    · rw [List.drop_eq_nil_of_le he, nameS]
      rw [a_endO j hj s hs l es z y i hy (.inl he) hlp lf st hp, hy]
    · have hx : s[i]? = some s[i] := List.getElem?_eq_getElem (by omega)
      rw [List.drop_eq_getElem_cons (show i < s.length by omega), nameS]
      generalize s[i] = c at *
      by_cases hk : kindB c = 2 ∨ kindB c = 1
      · rw [if_pos hk]
        have e2 : IntKind.i64.wrap (y + 1) = ((i + 1 : Nat) : Int) := by rw [Go.Rx.wrap_i64 (by omega) (by omega)]; omega
        exact a_nextO j hj s hs l es z y i hy c hx hk hlp lf st hp _ (fun st' hp' => ihm (i + 1) ((i + 1 : Nat) : Int) (by omega) (by omega) rfl lf st' (by omega) (by rw [hp', e2]))
      · rw [if_neg hk]
        rw [a_endO j hj s hs l es z y i hy (.inr ⟨c, hx, fun h => hk (.inl h), fun h => hk (.inr h)⟩) hlp lf st hp, hy]
theorem splitA_ne (s : List UInt8) : ∀ (m i : Nat) (acc : List W), acc ≠ [] → (splitA s m i acc).2.1 = 0 → (splitA s m i acc).1 ≠ [] := by
  intro m
  induction m with
  | zero => intro i acc h _; rw [splitA]; exact h
  | succ m ih =>
    intro i acc h
    rw [splitA]
    split
    · exact fun _ => h
    · split
      · exact ih _ _ h
      · split
        · split
          · exact fun h => absurd h (by simp)
          · split
            · exact fun h => absurd h (by simp)
            · exact ih _ _ (by simp)
        · split
          · split
            · exact fun h => absurd h (by simp)
            · exact ih _ _ (by simp)
          · split
            · exact ih _ _ (by simp)
            · exact fun h => absurd h (by simp)
theorem hne (s : List UInt8) (m i : Nat) (w : W) (h : (splitA s m i ([] ++ [w])).2.1 = 0) : (splitA s m i ([] ++ [w])).1 ≠ [] := splitA_ne s m i _ (by simp) h
theorem loop5O (s : List UInt8) (hs : s.length ≤ 4096) (j : Nat) (hj : 100 + s.length < j) {lp : LP} (hlp : lp = lpOf Try.prog cfg (icall Try.prog cfg j) Try.f19.ntmps 19 j (([] : Hp).map (·.1))) : ∀ (m i : Nat) (z : Int) (acc : List W), s.length - i ≤ m → i ≤ s.length → z = (i : Int) → acc.length + m ≤ 100000 →
    ((splitA s m i acc).2.1 = 0 → ∀ lf st, m < lf → prune [] [0, 3, 4, 5] st = some ⟨[(0, .d (.str s)), (3, .ptr (.slot 3) 0), (4, .own (.slot 124) 0 acc.length), (5, .d (.int .i64 z))], [(.slot 3, .cells [.d (.int .i64 0), .d (.int .i64 0)]), (.slot 124, .arr 54 4 0 (acc.map W.cells))]⟩ → loopK Try.prog cfg (icall Try.prog cfg j) lp Try.f19.ntmps 19 [] (bodyAt Try.f19 5) lf st (exitP [] (some [2, 3, 4])) = some (.exit 0, ⟨[(2, .undef), (3, .ptr (.slot 3) 0), (4, .own (.slot 124) 0 (splitA s m i acc).1.length)], [(.slot 3, .cells [.d (.int .i64 0), .d (.int .i64 0)]), (.slot 124, .arr 54 4 0 ((splitA s m i acc).1.map W.cells))]⟩)) ∧
    ((splitA s m i acc).2.1 ≠ 0 → ∃ (l : Nat) (es : List (List D)), ∀ lf st, m < lf → prune [] [0, 3, 4, 5] st = some ⟨[(0, .d (.str s)), (3, .ptr (.slot 3) 0), (4, .own (.slot 124) 0 acc.length), (5, .d (.int .i64 z))], [(.slot 3, .cells [.d (.int .i64 0), .d (.int .i64 0)]), (.slot 124, .arr 54 4 0 (acc.map W.cells))]⟩ → loopK Try.prog cfg (icall Try.prog cfg j) lp Try.f19.ntmps 19 [] (bodyAt Try.f19 5) lf st (exitP [] (some [2, 3, 4])) = some (.ret, ⟨[(2, .nilsl), (3, .ptr (.slot 3) 0), (4, .own (.slot 124) 0 l)], [(.slot 3, .cells [.d (.int .i64 (splitA s m i acc).2.1), .d (.int .i64 (splitA s m i acc).2.2)]), (.slot 124, .arr 54 4 0 es)]⟩)) := by
  have hj' := hj
  replace hj : 100 < j := by omega
  intro m
  induction m with
  | zero =>
    intro i z acc hm hi hz hl
    subst hz
    rw [splitA]
    refine ⟨fun _ lf st hlf hp => ?_, fun h => absurd rfl h⟩
    obtain ⟨lf, rfl⟩ : ∃ n, lf = n + 1 := ⟨lf - 1, by omega⟩
    exact s_endO j hj s hs acc.length (acc.map W.cells) (i : Int) i rfl (by omega) hlp lf st hp
  | succ m ihm =>
    intro i z acc hm hi hz hl
    subst hz
    have hz' : IntKind.i64.wrap ((i : Int) + 1) = ((i + 1 : Nat) : Int) := by rw [Go.Rx.wrap_i64 (by omega) (by omega)]; omega
    by_cases he : s.length ≤ i
    · rw [splitA, List.getElem?_eq_none he]
      refine ⟨fun _ => fun lf st hlf hp => ?_, fun h => absurd rfl h⟩
      obtain ⟨lf, rfl⟩ : ∃ n, lf = n + 1 := ⟨lf - 1, by omega⟩
      exact s_endO j hj s hs acc.length (acc.map W.cells) (i : Int) i rfl he hlp lf st hp
    · have hx : s[i]? = some s[i] := List.getElem?_eq_getElem (by omega)
      generalize s[i] = c at *
      rw [splitA, hx]
      dsimp only
      rcases kind_of c with hk | hk | hk | hk | hk
      · rw [if_pos hk]
        obtain ⟨g1, g2⟩ := ihm (i + 1) ((i + 1 : Nat) : Int) acc (by omega) (by omega) rfl (by omega)
        refine ⟨fun h lf st hlf hp => ?_, fun h => ?_⟩
        · obtain ⟨lf, rfl⟩ : ∃ n, lf = n + 1 := ⟨lf - 1, by omega⟩
          exact s_blankO j hj s hs acc.length (acc.map W.cells) (i : Int) i rfl c hx hk hlp lf st hp _ (fun st' hp' => g1 h lf st' (by omega) (by rw [hp', hz']))
        · obtain ⟨l, es, g⟩ := g2 h
          refine ⟨l, es, fun lf st hlf hp => ?_⟩
          obtain ⟨lf, rfl⟩ : ∃ n, lf = n + 1 := ⟨lf - 1, by omega⟩
          exact s_blankO j hj s hs acc.length (acc.map W.cells) (i : Int) i rfl c hx hk hlp lf st hp _ (fun st' hp' => g lf st' (by omega) (by rw [hp', hz']))
      · rw [if_neg (by omega), if_pos hk]
        have hkd := kind_d hk
        have e1 : IntKind.i64.wrap (IntKind.u8.wrap ((c.toNat : Int) - 48)) = dig c := digit hk
        obtain ⟨a1, a2⟩ := loop16O s hs acc.length (acc.map W.cells) (i : Int) j hj hlp s.length (i + 1) ((i + 1 : Nat) : Int) (dig c) (by omega) (by omega) rfl (by unfold dig; omega) (by unfold dig; omega)
        cases hn : numS (i + 1) (dig c) (s.drop (i + 1)) with
        | none =>
          dsimp only
          obtain ⟨v, y', a2⟩ := a2 hn
          refine ⟨fun h => absurd h (by simp), fun _ => ⟨acc.length, acc.map W.cells, fun lf st hlf hp => ?_⟩⟩
          obtain ⟨lf, rfl⟩ : ∃ n, lf = n + 1 := ⟨lf - 1, by omega⟩
          exact s_numFO j hj s hs acc.length (acc.map W.cells) (i : Int) i rfl c hx hk hlp v y' (fun st' hp' => a2 j st' (by omega) (by rw [hp', e1, hz'])) lf st hp
        | some p =>
          obtain ⟨v, b⟩ := p
          dsimp only
          have hb := numS_b _ _ _ _ _ hn (by unfold dig; omega) (by unfold dig; omega)
          rw [List.length_drop] at hb
          have a1 := a1 v b hn
          unfold isName
          by_cases hbl : s.length ≤ b
          · rw [List.getElem?_eq_none hbl]
            simp only [Bool.false_eq_true, if_false]
            obtain ⟨g1, g2⟩ := ihm (b) ((b : Nat) : Int) (acc ++ [⟨1, [], v, (i : Int)⟩]) (by omega) (by omega) rfl (by simp; omega)
            refine ⟨fun h lf st hlf hp => ?_, fun h => ?_⟩
            · obtain ⟨lf, rfl⟩ : ∃ n, lf = n + 1 := ⟨lf - 1, by omega⟩
              exact s_numO j hj s hs acc.length (acc.map W.cells) (i : Int) (by omega) i rfl c hx hk hlp v (b : Int) b rfl (fun st' hp' => a1 j st' (by omega) (by rw [hp', e1, hz'])) (.inl hbl) lf st hp _ (fun st' hp' => g1 h lf st' (by omega) (by rw [hp', List.take_of_length_le (by simp), List.map_append, List.length_append]; rfl))
            · obtain ⟨l, es, g⟩ := g2 h
              refine ⟨l, es, fun lf st hlf hp => ?_⟩
              obtain ⟨lf, rfl⟩ : ∃ n, lf = n + 1 := ⟨lf - 1, by omega⟩
              exact s_numO j hj s hs acc.length (acc.map W.cells) (i : Int) (by omega) i rfl c hx hk hlp v (b : Int) b rfl (fun st' hp' => a1 j st' (by omega) (by rw [hp', e1, hz'])) (.inl hbl) lf st hp _ (fun st' hp' => g lf st' (by omega) (by rw [hp', List.take_of_length_le (by simp), List.map_append, List.length_append]; rfl))
          · have hx' : s[b]? = some s[b] := List.getElem?_eq_getElem (by omega)
            generalize s[b] = c' at hx'
            rw [hx']
            dsimp only
            by_cases hk' : kindB c' = 2
            · rw [if_pos (by rw [hk']; rfl)]
              refine ⟨fun h => absurd h (by simp), fun _ => ⟨acc.length, acc.map W.cells, fun lf st hlf hp => ?_⟩⟩
              obtain ⟨lf, rfl⟩ : ∃ n, lf = n + 1 := ⟨lf - 1, by omega⟩
              exact s_numGO j hj s hs acc.length (acc.map W.cells) (i : Int) i rfl c hx hk hlp v (b : Int) b rfl (fun st' hp' => a1 j st' (by omega) (by rw [hp', e1, hz'])) c' hx' hk' lf st hp
            · rw [if_neg (by simpa using hk')]
              obtain ⟨g1, g2⟩ := ihm (b) ((b : Nat) : Int) (acc ++ [⟨1, [], v, (i : Int)⟩]) (by omega) (by omega) rfl (by simp; omega)
              refine ⟨fun h lf st hlf hp => ?_, fun h => ?_⟩
              · obtain ⟨lf, rfl⟩ : ∃ n, lf = n + 1 := ⟨lf - 1, by omega⟩
                exact s_numO j hj s hs acc.length (acc.map W.cells) (i : Int) (by omega) i rfl c hx hk hlp v (b : Int) b rfl (fun st' hp' => a1 j st' (by omega) (by rw [hp', e1, hz'])) (.inr ⟨c', hx', hk'⟩) lf st hp _ (fun st' hp' => g1 h lf st' (by omega) (by rw [hp', List.take_of_length_le (by simp), List.map_append, List.length_append]; rfl))
              · obtain ⟨l, es, g⟩ := g2 h
                refine ⟨l, es, fun lf st hlf hp => ?_⟩
                obtain ⟨lf, rfl⟩ : ∃ n, lf = n + 1 := ⟨lf - 1, by omega⟩
                exact s_numO j hj s hs acc.length (acc.map W.cells) (i : Int) (by omega) i rfl c hx hk hlp v (b : Int) b rfl (fun st' hp' => a1 j st' (by omega) (by rw [hp', e1, hz'])) (.inr ⟨c', hx', hk'⟩) lf st hp _ (fun st' hp' => g lf st' (by omega) (by rw [hp', List.take_of_length_le (by simp), List.map_append, List.length_append]; rfl))
      · rw [if_neg (by omega), if_neg (by omega), if_pos hk]
        have a1 := loop24O s hs acc.length (acc.map W.cells) (i : Int) j hj hlp s.length (i + 1) ((i + 1 : Nat) : Int) (by omega) (by omega) rfl
        have hb := nameS_b (s.drop (i + 1)) (i + 1)
        rw [List.length_drop] at hb
        generalize nameS (i + 1) (s.drop (i + 1)) = b at *
        have hw : IntKind.i64.wrap ((b : Int) - (i : Int)) = (b : Int) - (i : Int) := Go.Rx.wrap_i64 (by omega) (by omega)
        by_cases hsm : b - i > 32
        · rw [if_pos hsm]
          refine ⟨fun h => absurd h (by simp), fun _ => ⟨acc.length, acc.map W.cells, fun lf st hlf hp => ?_⟩⟩
          obtain ⟨lf, rfl⟩ : ∃ n, lf = n + 1 := ⟨lf - 1, by omega⟩
          exact s_nameFO j hj s hs acc.length (acc.map W.cells) (i : Int) i rfl c hx hk hlp (b : Int) (fun st' hp' => a1 j st' (by omega) (by rw [hp', hz'])) (by rw [hw]; omega) lf st hp
        · rw [if_neg hsm]
          obtain ⟨g1, g2⟩ := ihm (b) ((b : Nat) : Int) (acc ++ [⟨2, (s.take b).drop i, 0, (i : Int)⟩]) (by omega) (by omega) rfl (by simp; omega)
          refine ⟨fun h lf st hlf hp => ?_, fun h => ?_⟩
          · obtain ⟨lf, rfl⟩ : ∃ n, lf = n + 1 := ⟨lf - 1, by omega⟩
            exact s_nameO j hj s hs acc.length (acc.map W.cells) (i : Int) (by omega) i rfl c hx hk hlp (b : Int) b rfl (by omega) (by omega) (fun st' hp' => a1 j st' (by omega) (by rw [hp', hz'])) (by rw [hw]; omega) lf st hp _ (fun st' hp' => g1 h lf st' (by omega) (by rw [hp', List.take_of_length_le (by simp), List.map_append, List.length_append]; rfl))
          · obtain ⟨l, es, g⟩ := g2 h
            refine ⟨l, es, fun lf st hlf hp => ?_⟩
            obtain ⟨lf, rfl⟩ : ∃ n, lf = n + 1 := ⟨lf - 1, by omega⟩
            exact s_nameO j hj s hs acc.length (acc.map W.cells) (i : Int) (by omega) i rfl c hx hk hlp (b : Int) b rfl (by omega) (by omega) (fun st' hp' => a1 j st' (by omega) (by rw [hp', hz'])) (by rw [hw]; omega) lf st hp _ (fun st' hp' => g lf st' (by omega) (by rw [hp', List.take_of_length_le (by simp), List.map_append, List.length_append]; rfl))
      · rw [if_neg (by omega), if_neg (by omega), if_neg (by omega), if_pos hk]
        obtain ⟨g1, g2⟩ := ihm (i + 1) ((i + 1 : Nat) : Int) (acc ++ [⟨3, (s.take (i + 1)).drop i, 0, (i : Int)⟩]) (by omega) (by omega) rfl (by simp; omega)
        refine ⟨fun h lf st hlf hp => ?_, fun h => ?_⟩
        · obtain ⟨lf, rfl⟩ : ∃ n, lf = n + 1 := ⟨lf - 1, by omega⟩
          exact s_signO j hj s hs acc.length (acc.map W.cells) (i : Int) (by omega) i rfl c hx hk hlp lf st hp _ (fun st' hp' => g1 h lf st' (by omega) (by rw [hp', hz', List.take_of_length_le (by simp), List.map_append, List.length_append]; rfl))
        · obtain ⟨l, es, g⟩ := g2 h
          refine ⟨l, es, fun lf st hlf hp => ?_⟩
          obtain ⟨lf, rfl⟩ : ∃ n, lf = n + 1 := ⟨lf - 1, by omega⟩
          exact s_signO j hj s hs acc.length (acc.map W.cells) (i : Int) (by omega) i rfl c hx hk hlp lf st hp _ (fun st' hp' => g lf st' (by omega) (by rw [hp', hz', List.take_of_length_le (by simp), List.map_append, List.length_append]; rfl))
      · rw [if_neg (by omega), if_neg (by omega), if_neg (by omega), if_neg (by omega)]
        refine ⟨fun h => absurd h (by simp), fun _ => ⟨acc.length, acc.map W.cells, fun lf st hlf hp => ?_⟩⟩
        obtain ⟨lf, rfl⟩ : ∃ n, lf = n + 1 := ⟨lf - 1, by omega⟩
        exact s_badO j hj s hs acc.length (acc.map W.cells) (i : Int) i rfl c hx hk hlp lf st hp
theorem loop5N (s : List UInt8) (hs : s.length ≤ 4096) (j : Nat) (hj : 100 + s.length < j) {lp : LP} (hlp : lp = lpOf Try.prog cfg (icall Try.prog cfg j) Try.f19.ntmps 19 j (([] : Hp).map (·.1))) : ∀ (m i : Nat) (z : Int), s.length - i ≤ m → i ≤ s.length → z = (i : Int) → m ≤ 90000 →
    ((splitA s m i []).2.1 = 0 → ((splitA s m i []).1 = [] ∧ ∀ lf st, m < lf → prune [] [0, 3, 4, 5] st = some ⟨[(0, .d (.str s)), (3, .ptr (.slot 3) 0), (4, .nilsl), (5, .d (.int .i64 z))], [(.slot 3, .cells [.d (.int .i64 0), .d (.int .i64 0)])]⟩ → loopK Try.prog cfg (icall Try.prog cfg j) lp Try.f19.ntmps 19 [] (bodyAt Try.f19 5) lf st (exitP [] (some [2, 3, 4])) = some (.exit 0, ⟨[(2, .undef), (3, .ptr (.slot 3) 0), (4, .nilsl)], [(.slot 3, .cells [.d (.int .i64 0), .d (.int .i64 0)])]⟩)) ∨ ((splitA s m i []).1 ≠ [] ∧ ∀ lf st, m < lf → prune [] [0, 3, 4, 5] st = some ⟨[(0, .d (.str s)), (3, .ptr (.slot 3) 0), (4, .nilsl), (5, .d (.int .i64 z))], [(.slot 3, .cells [.d (.int .i64 0), .d (.int .i64 0)])]⟩ → loopK Try.prog cfg (icall Try.prog cfg j) lp Try.f19.ntmps 19 [] (bodyAt Try.f19 5) lf st (exitP [] (some [2, 3, 4])) = some (.exit 0, ⟨[(2, .undef), (3, .ptr (.slot 3) 0), (4, .own (.slot 124) 0 (splitA s m i []).1.length)], [(.slot 3, .cells [.d (.int .i64 0), .d (.int .i64 0)]), (.slot 124, .arr 54 4 0 ((splitA s m i []).1.map W.cells))]⟩))) ∧
    ((splitA s m i []).2.1 ≠ 0 → (∀ lf st, m < lf → prune [] [0, 3, 4, 5] st = some ⟨[(0, .d (.str s)), (3, .ptr (.slot 3) 0), (4, .nilsl), (5, .d (.int .i64 z))], [(.slot 3, .cells [.d (.int .i64 0), .d (.int .i64 0)])]⟩ → loopK Try.prog cfg (icall Try.prog cfg j) lp Try.f19.ntmps 19 [] (bodyAt Try.f19 5) lf st (exitP [] (some [2, 3, 4])) = some (.ret, ⟨[(2, .nilsl), (3, .ptr (.slot 3) 0), (4, .nilsl)], [(.slot 3, .cells [.d (.int .i64 (splitA s m i []).2.1), .d (.int .i64 (splitA s m i []).2.2)])]⟩)) ∨ ∃ (l : Nat) (es : List (List D)), ∀ lf st, m < lf → prune [] [0, 3, 4, 5] st = some ⟨[(0, .d (.str s)), (3, .ptr (.slot 3) 0), (4, .nilsl), (5, .d (.int .i64 z))], [(.slot 3, .cells [.d (.int .i64 0), .d (.int .i64 0)])]⟩ → loopK Try.prog cfg (icall Try.prog cfg j) lp Try.f19.ntmps 19 [] (bodyAt Try.f19 5) lf st (exitP [] (some [2, 3, 4])) = some (.ret, ⟨[(2, .nilsl), (3, .ptr (.slot 3) 0), (4, .own (.slot 124) 0 l)], [(.slot 3, .cells [.d (.int .i64 (splitA s m i []).2.1), .d (.int .i64 (splitA s m i []).2.2)]), (.slot 124, .arr 54 4 0 es)]⟩)) := by
  have hj' := hj
  replace hj : 100 < j := by omega
  intro m
  induction m with
  | zero =>
    intro i z hm hi hz hl
    subst hz
    rw [splitA]
    refine ⟨fun _ => .inl ⟨rfl, fun lf st hlf hp => ?_⟩, fun h => absurd rfl h⟩
    obtain ⟨lf, rfl⟩ : ∃ n, lf = n + 1 := ⟨lf - 1, by omega⟩
    exact s_endN j hj s hs (i : Int) i rfl (by omega) hlp lf st hp
  | succ m ihm =>
    intro i z hm hi hz hl
    subst hz
    have ihO := loop5O s hs j hj' hlp m
    have hz' : IntKind.i64.wrap ((i : Int) + 1) = ((i + 1 : Nat) : Int) := by rw [Go.Rx.wrap_i64 (by omega) (by omega)]; omega
    by_cases he : s.length ≤ i
    · rw [splitA, List.getElem?_eq_none he]
      refine ⟨fun _ => .inl ⟨rfl, fun lf st hlf hp => ?_⟩, fun h => absurd rfl h⟩
      obtain ⟨lf, rfl⟩ : ∃ n, lf = n + 1 := ⟨lf - 1, by omega⟩
      exact s_endN j hj s hs (i : Int) i rfl he hlp lf st hp
    · have hx : s[i]? = some s[i] := List.getElem?_eq_getElem (by omega)
      generalize s[i] = c at *
      rw [splitA, hx]
      dsimp only
      rcases kind_of c with hk | hk | hk | hk | hk
      · rw [if_pos hk]
        obtain ⟨g1, g2⟩ := ihm (i + 1) ((i + 1 : Nat) : Int) (by omega) (by omega) rfl (by omega)
        refine ⟨fun h => ?_, fun h => ?_⟩
        · rcases g1 h with ⟨e, g⟩ | ⟨e, g⟩
          · refine .inl ⟨e, fun lf st hlf hp => ?_⟩
            obtain ⟨lf, rfl⟩ : ∃ n, lf = n + 1 := ⟨lf - 1, by omega⟩
            exact s_blankN j hj s hs (i : Int) i rfl c hx hk hlp lf st hp _ (fun st' hp' => g lf st' (by omega) (by rw [hp', hz']))
          · refine .inr ⟨e, fun lf st hlf hp => ?_⟩
            obtain ⟨lf, rfl⟩ : ∃ n, lf = n + 1 := ⟨lf - 1, by omega⟩
            exact s_blankN j hj s hs (i : Int) i rfl c hx hk hlp lf st hp _ (fun st' hp' => g lf st' (by omega) (by rw [hp', hz']))
        · rcases g2 h with g | ⟨l, es, g⟩
          · refine .inl (fun lf st hlf hp => ?_)
            obtain ⟨lf, rfl⟩ : ∃ n, lf = n + 1 := ⟨lf - 1, by omega⟩
            exact s_blankN j hj s hs (i : Int) i rfl c hx hk hlp lf st hp _ (fun st' hp' => g lf st' (by omega) (by rw [hp', hz']))
          · refine .inr ⟨l, es, fun lf st hlf hp => ?_⟩
            obtain ⟨lf, rfl⟩ : ∃ n, lf = n + 1 := ⟨lf - 1, by omega⟩
            exact s_blankN j hj s hs (i : Int) i rfl c hx hk hlp lf st hp _ (fun st' hp' => g lf st' (by omega) (by rw [hp', hz']))
      · rw [if_neg (by omega), if_pos hk]
        have hkd := kind_d hk
        have e1 : IntKind.i64.wrap (IntKind.u8.wrap ((c.toNat : Int) - 48)) = dig c := digit hk
        obtain ⟨a1, a2⟩ := loop16N s hs (i : Int) j hj hlp s.length (i + 1) ((i + 1 : Nat) : Int) (dig c) (by omega) (by omega) rfl (by unfold dig; omega) (by unfold dig; omega)
        cases hn : numS (i + 1) (dig c) (s.drop (i + 1)) with
        | none =>
          dsimp only
          obtain ⟨v, y', a2⟩ := a2 hn
          refine ⟨fun h => absurd h (by simp), fun _ => .inl (fun lf st hlf hp => ?_)⟩
          obtain ⟨lf, rfl⟩ : ∃ n, lf = n + 1 := ⟨lf - 1, by omega⟩
          exact s_numFN j hj s hs (i : Int) i rfl c hx hk hlp v y' (fun st' hp' => a2 j st' (by omega) (by rw [hp', e1, hz'])) lf st hp
        | some p =>
          obtain ⟨v, b⟩ := p
          dsimp only
          have hb := numS_b _ _ _ _ _ hn (by unfold dig; omega) (by unfold dig; omega)
          rw [List.length_drop] at hb
          have a1 := a1 v b hn
          unfold isName
          by_cases hbl : s.length ≤ b
          · rw [List.getElem?_eq_none hbl]
            simp only [Bool.false_eq_true, if_false]
            obtain ⟨g1, g2⟩ := ihO (b) ((b : Nat) : Int) (([] : List W) ++ [⟨1, [], v, (i : Int)⟩]) (by omega) (by omega) rfl (by simp; omega)
            refine ⟨fun h => .inr ⟨hne _ _ _ _ h, fun lf st hlf hp => ?_⟩, fun h => ?_⟩
            · obtain ⟨lf, rfl⟩ : ∃ n, lf = n + 1 := ⟨lf - 1, by omega⟩
              exact s_numN j hj s hs (i : Int) i rfl c hx hk hlp v (b : Int) b rfl (fun st' hp' => a1 j st' (by omega) (by rw [hp', e1, hz'])) (.inl hbl) lf st hp _ (fun st' hp' => g1 h lf st' (by omega) (by rw [hp']; rfl))
            · obtain ⟨l, es, g⟩ := g2 h
              refine .inr ⟨l, es, fun lf st hlf hp => ?_⟩
              obtain ⟨lf, rfl⟩ : ∃ n, lf = n + 1 := ⟨lf - 1, by omega⟩
              exact s_numN j hj s hs (i : Int) i rfl c hx hk hlp v (b : Int) b rfl (fun st' hp' => a1 j st' (by omega) (by rw [hp', e1, hz'])) (.inl hbl) lf st hp _ (fun st' hp' => g lf st' (by omega) (by rw [hp']; rfl))
          · have hx' : s[b]? = some s[b] := List.getElem?_eq_getElem (by omega)
            generalize s[b] = c' at hx'
            rw [hx']
            dsimp only
            by_cases hk' : kindB c' = 2
            · rw [if_pos (by rw [hk']; rfl)]
              refine ⟨fun h => absurd h (by simp), fun _ => .inl (fun lf st hlf hp => ?_)⟩
              obtain ⟨lf, rfl⟩ : ∃ n, lf = n + 1 := ⟨lf - 1, by omega⟩
              exact s_numGN j hj s hs (i : Int) i rfl c hx hk hlp v (b : Int) b rfl (fun st' hp' => a1 j st' (by omega) (by rw [hp', e1, hz'])) c' hx' hk' lf st hp
            · rw [if_neg (by simpa using hk')]
              obtain ⟨g1, g2⟩ := ihO (b) ((b : Nat) : Int) (([] : List W) ++ [⟨1, [], v, (i : Int)⟩]) (by omega) (by omega) rfl (by simp; omega)
              refine ⟨fun h => .inr ⟨hne _ _ _ _ h, fun lf st hlf hp => ?_⟩, fun h => ?_⟩
              · obtain ⟨lf, rfl⟩ : ∃ n, lf = n + 1 := ⟨lf - 1, by omega⟩
                exact s_numN j hj s hs (i : Int) i rfl c hx hk hlp v (b : Int) b rfl (fun st' hp' => a1 j st' (by omega) (by rw [hp', e1, hz'])) (.inr ⟨c', hx', hk'⟩) lf st hp _ (fun st' hp' => g1 h lf st' (by omega) (by rw [hp']; rfl))
              · obtain ⟨l, es, g⟩ := g2 h
                refine .inr ⟨l, es, fun lf st hlf hp => ?_⟩
                obtain ⟨lf, rfl⟩ : ∃ n, lf = n + 1 := ⟨lf - 1, by omega⟩
                exact s_numN j hj s hs (i : Int) i rfl c hx hk hlp v (b : Int) b rfl (fun st' hp' => a1 j st' (by omega) (by rw [hp', e1, hz'])) (.inr ⟨c', hx', hk'⟩) lf st hp _ (fun st' hp' => g lf st' (by omega) (by rw [hp']; rfl))
      · rw [if_neg (by omega), if_neg (by omega), if_pos hk]
        have a1 := loop24N s hs (i : Int) j hj hlp s.length (i + 1) ((i + 1 : Nat) : Int) (by omega) (by omega) rfl
        have hb := nameS_b (s.drop (i + 1)) (i + 1)
        rw [List.length_drop] at hb
        generalize nameS (i + 1) (s.drop (i + 1)) = b at *
        have hw : IntKind.i64.wrap ((b : Int) - (i : Int)) = (b : Int) - (i : Int) := Go.Rx.wrap_i64 (by omega) (by omega)
        by_cases hsm : b - i > 32
        · rw [if_pos hsm]
          refine ⟨fun h => absurd h (by simp), fun _ => .inl (fun lf st hlf hp => ?_)⟩
          obtain ⟨lf, rfl⟩ : ∃ n, lf = n + 1 := ⟨lf - 1, by omega⟩
          exact s_nameFN j hj s hs (i : Int) i rfl c hx hk hlp (b : Int) (fun st' hp' => a1 j st' (by omega) (by rw [hp', hz'])) (by rw [hw]; omega) lf st hp
        · rw [if_neg hsm]
          obtain ⟨g1, g2⟩ := ihO (b) ((b : Nat) : Int) (([] : List W) ++ [⟨2, (s.take b).drop i, 0, (i : Int)⟩]) (by omega) (by omega) rfl (by simp; omega)
          refine ⟨fun h => .inr ⟨hne _ _ _ _ h, fun lf st hlf hp => ?_⟩, fun h => ?_⟩
          · obtain ⟨lf, rfl⟩ : ∃ n, lf = n + 1 := ⟨lf - 1, by omega⟩
            exact s_nameN j hj s hs (i : Int) i rfl c hx hk hlp (b : Int) b rfl (by omega) (by omega) (fun st' hp' => a1 j st' (by omega) (by rw [hp', hz'])) (by rw [hw]; omega) lf st hp _ (fun st' hp' => g1 h lf st' (by omega) (by rw [hp']; rfl))
          · obtain ⟨l, es, g⟩ := g2 h
            refine .inr ⟨l, es, fun lf st hlf hp => ?_⟩
            obtain ⟨lf, rfl⟩ : ∃ n, lf = n + 1 := ⟨lf - 1, by omega⟩
            exact s_nameN j hj s hs (i : Int) i rfl c hx hk hlp (b : Int) b rfl (by omega) (by omega) (fun st' hp' => a1 j st' (by omega) (by rw [hp', hz'])) (by rw [hw]; omega) lf st hp _ (fun st' hp' => g lf st' (by omega) (by rw [hp']; rfl))
      · rw [if_neg (by omega), if_neg (by omega), if_neg (by omega), if_pos hk]
        obtain ⟨g1, g2⟩ := ihO (i + 1) ((i + 1 : Nat) : Int) (([] : List W) ++ [⟨3, (s.take (i + 1)).drop i, 0, (i : Int)⟩]) (by omega) (by omega) rfl (by simp; omega)
        refine ⟨fun h => .inr ⟨hne _ _ _ _ h, fun lf st hlf hp => ?_⟩, fun h => ?_⟩
        · obtain ⟨lf, rfl⟩ : ∃ n, lf = n + 1 := ⟨lf - 1, by omega⟩
          exact s_signN j hj s hs (i : Int) i rfl c hx hk hlp lf st hp _ (fun st' hp' => g1 h lf st' (by omega) (by rw [hp', hz']; rfl))
        · obtain ⟨l, es, g⟩ := g2 h
          refine .inr ⟨l, es, fun lf st hlf hp => ?_⟩
          obtain ⟨lf, rfl⟩ : ∃ n, lf = n + 1 := ⟨lf - 1, by omega⟩
          exact s_signN j hj s hs (i : Int) i rfl c hx hk hlp lf st hp _ (fun st' hp' => g lf st' (by omega) (by rw [hp', hz']; rfl))
      · rw [if_neg (by omega), if_neg (by omega), if_neg (by omega), if_neg (by omega)]
        refine ⟨fun h => absurd h (by simp), fun _ => .inl (fun lf st hlf hp => ?_)⟩
        obtain ⟨lf, rfl⟩ : ∃ n, lf = n + 1 := ⟨lf - 1, by omega⟩
        exact s_badN j hj s hs (i : Int) i rfl c hx hk hlp lf st hp
theorem split19 (s : List UInt8) (k : Nat) (hk : s.length + 110 < k) : icall Try.prog cfg k 19 [.d (.str s)] [] = some (.ret (.tuple [.d (.list ((splitS s).1.map W.cells)), .agg [.d (.int .i64 (splitS s).2.1), .d (.int .i64 (splitS s).2.2)]]), []) := by
  obtain ⟨k, rfl⟩ : ∃ j, k = j + 1 := ⟨k - 1, by omega⟩
  unfold splitS
  by_cases hbig : s.length > 4096
  · rw [if_pos hbig]
    rw [icall_body rfl Try.func19]
    obtain ⟨lp, hlp⟩ : ∃ lp, lp = lpOf Try.prog cfg (icall Try.prog cfg k) Try.f19.ntmps 19 k (([] : Hp).map (·.1)) := ⟨_, rfl⟩
    rw [← hlp]
    conv => lhs; whnf
    refine iteK_dec (fun h1 => ?_) (fun h1 => ?_)
    · rw [dec_t h1]
      conv => lhs; whnf
      refine Eq.trans (b := some (Res.ret (AV.tuple [AV.d (D.list []), AV.agg [AV.d (D.int IntKind.i64 (6 : Int)), AV.d (D.int IntKind.i64 (0 : Int))]]), [])) (by kernel_rfl) ?_
      rfl
    · rw [dec_f h1]
      (exfalso; omega)
  · rw [if_neg hbig]
    obtain ⟨g1, g2⟩ := loop5N s (by omega) k (by omega) (lp := _) rfl s.length 0 0 (by omega) (Nat.zero_le _) rfl (by omega)
    have good := splitA_good s (by omega) s.length 0 [] (by simp)
    by_cases her : (splitA s s.length 0 []).2.1 = 0
    · have hat : (splitA s s.length 0 []).2.2 = 0 := by
        rcases good with ⟨_, h, _⟩ | ⟨_, h, _⟩
        · exact h
        · exfalso; rcases h with h | h <;> rw [h] at her <;> simp at her
      rcases g1 her with ⟨e, g⟩ | ⟨e, g⟩
      · rw [her, hat, e]
        have g' : ∀ lp, lp = lpOf Try.prog cfg (icall Try.prog cfg k) Try.f19.ntmps 19 k (([] : Hp).map (·.1)) → ∀ st, prune [] [0, 3, 4, 5] st = some ⟨[(0, .d (.str s)), (3, .ptr (.slot 3) 0), (4, .nilsl), (5, .d (.int .i64 0))], [(.slot 3, .cells [.d (.int .i64 0), .d (.int .i64 0)])]⟩ → loopK Try.prog cfg (icall Try.prog cfg k) lp Try.f19.ntmps 19 [] (bodyAt Try.f19 5) k st (exitP [] (some [2, 3, 4])) = some (.exit 0, ⟨[(2, .undef), (3, .ptr (.slot 3) 0), (4, .nilsl)], [(.slot 3, .cells [.d (.int .i64 0), .d (.int .i64 0)])]⟩) := fun lp hlp st hp => by subst hlp; exact g k st (by omega) hp
        rw [icall_body rfl Try.func19]
        obtain ⟨lp, hlp⟩ : ∃ lp, lp = lpOf Try.prog cfg (icall Try.prog cfg k) Try.f19.ntmps 19 k (([] : Hp).map (·.1)) := ⟨_, rfl⟩
        rw [← hlp]
        conv => lhs; whnf
        refine iteK_dec (fun h1 => ?_) (fun h1 => ?_)
        · rw [dec_t h1]
          (exfalso; omega)
        · rw [dec_f h1]
          conv => lhs; whnf
          refine nextK_of (loop_at hlp (g' _ hlp _ rfl)) ?_
          conv => lhs; whnf
          refine Eq.trans (b := some (Res.ret (AV.tuple [AV.d (D.list []), AV.agg [AV.d (D.int IntKind.i64 (0 : Int)), AV.d (D.int IntKind.i64 (0 : Int))]]), [])) (by kernel_rfl) ?_
          rfl
      · rw [her, hat]
        have hl := splitA_len s s.length 0 []
        generalize (splitA s s.length 0 []).1 = ws at *
        have g' : ∀ lp, lp = lpOf Try.prog cfg (icall Try.prog cfg k) Try.f19.ntmps 19 k (([] : Hp).map (·.1)) → ∀ st, prune [] [0, 3, 4, 5] st = some ⟨[(0, .d (.str s)), (3, .ptr (.slot 3) 0), (4, .nilsl), (5, .d (.int .i64 0))], [(.slot 3, .cells [.d (.int .i64 0), .d (.int .i64 0)])]⟩ → loopK Try.prog cfg (icall Try.prog cfg k) lp Try.f19.ntmps 19 [] (bodyAt Try.f19 5) k st (exitP [] (some [2, 3, 4])) = some (.exit 0, ⟨[(2, .undef), (3, .ptr (.slot 3) 0), (4, .own (.slot 124) 0 ws.length)], [(.slot 3, .cells [.d (.int .i64 0), .d (.int .i64 0)]), (.slot 124, .arr 54 4 0 (ws.map W.cells))]⟩) := fun lp hlp st hp => by subst hlp; exact g k st (by omega) hp
        rw [icall_body rfl Try.func19]
        obtain ⟨lp, hlp⟩ : ∃ lp, lp = lpOf Try.prog cfg (icall Try.prog cfg k) Try.f19.ntmps 19 k (([] : Hp).map (·.1)) := ⟨_, rfl⟩
        rw [← hlp]
        conv => lhs; whnf
        refine iteK_dec (fun h1 => ?_) (fun h1 => ?_)
        · rw [dec_t h1]
          (exfalso; omega)
        · rw [dec_f h1]
          conv => lhs; whnf
          refine nextK_of (loop_at hlp (g' _ hlp _ rfl)) ?_
          conv => lhs; whnf
          refine Eq.trans (b := some (Res.ret (AV.tuple [AV.d (D.list (List.take (List.length ws) (List.map W.cells ws))), AV.agg [AV.d (D.int IntKind.i64 (0 : Int)), AV.d (D.int IntKind.i64 (0 : Int))]]), [])) (by kernel_rfl) ?_
          (rw [List.take_of_length_le (by simp)])
    · have h1 : (splitA s s.length 0 []).1 = [] := by
        rcases good with ⟨h, _⟩ | ⟨h, _⟩
        · exact absurd h her
        · exact h
      rw [h1]
      generalize (splitA s s.length 0 []).2.1 = er at *
      generalize (splitA s s.length 0 []).2.2 = at' at *
      rcases g2 her with g | ⟨l, es, g⟩
      · have g' : ∀ lp, lp = lpOf Try.prog cfg (icall Try.prog cfg k) Try.f19.ntmps 19 k (([] : Hp).map (·.1)) → ∀ st, prune [] [0, 3, 4, 5] st = some ⟨[(0, .d (.str s)), (3, .ptr (.slot 3) 0), (4, .nilsl), (5, .d (.int .i64 0))], [(.slot 3, .cells [.d (.int .i64 0), .d (.int .i64 0)])]⟩ → loopK Try.prog cfg (icall Try.prog cfg k) lp Try.f19.ntmps 19 [] (bodyAt Try.f19 5) k st (exitP [] (some [2, 3, 4])) = some (.ret, ⟨[(2, .nilsl), (3, .ptr (.slot 3) 0), (4, .nilsl)], [(.slot 3, .cells [.d (.int .i64 er), .d (.int .i64 at')])]⟩) := fun lp hlp st hp => by subst hlp; exact g k st (by omega) hp
        rw [icall_body rfl Try.func19]
        obtain ⟨lp, hlp⟩ : ∃ lp, lp = lpOf Try.prog cfg (icall Try.prog cfg k) Try.f19.ntmps 19 k (([] : Hp).map (·.1)) := ⟨_, rfl⟩
        rw [← hlp]
        conv => lhs; whnf
        refine iteK_dec (fun h1 => ?_) (fun h1 => ?_)
        · rw [dec_t h1]
          (exfalso; omega)
        · rw [dec_f h1]
          conv => lhs; whnf
          refine nextK_of (loop_at hlp (g' _ hlp _ rfl)) ?_
          conv => lhs; whnf
          refine Eq.trans (b := some (Res.ret (AV.tuple [AV.d (D.list []), AV.agg [AV.d (D.int IntKind.i64 er), AV.d (D.int IntKind.i64 at')]]), [])) (by kernel_rfl) ?_
          rfl
      · have g' : ∀ lp, lp = lpOf Try.prog cfg (icall Try.prog cfg k) Try.f19.ntmps 19 k (([] : Hp).map (·.1)) → ∀ st, prune [] [0, 3, 4, 5] st = some ⟨[(0, .d (.str s)), (3, .ptr (.slot 3) 0), (4, .nilsl), (5, .d (.int .i64 0))], [(.slot 3, .cells [.d (.int .i64 0), .d (.int .i64 0)])]⟩ → loopK Try.prog cfg (icall Try.prog cfg k) lp Try.f19.ntmps 19 [] (bodyAt Try.f19 5) k st (exitP [] (some [2, 3, 4])) = some (.ret, ⟨[(2, .nilsl), (3, .ptr (.slot 3) 0), (4, .own (.slot 124) 0 l)], [(.slot 3, .cells [.d (.int .i64 er), .d (.int .i64 at')]), (.slot 124, .arr 54 4 0 es)]⟩) := fun lp hlp st hp => by subst hlp; exact g k st (by omega) hp
        rw [icall_body rfl Try.func19]
        obtain ⟨lp, hlp⟩ : ∃ lp, lp = lpOf Try.prog cfg (icall Try.prog cfg k) Try.f19.ntmps 19 k (([] : Hp).map (·.1)) := ⟨_, rfl⟩
        rw [← hlp]
        conv => lhs; whnf
        refine iteK_dec (fun h1 => ?_) (fun h1 => ?_)
        · rw [dec_t h1]
          (exfalso; omega)
        · rw [dec_f h1]
          conv => lhs; whnf
          refine nextK_of (loop_at hlp (g' _ hlp _ rfl)) ?_
          conv => lhs; whnf
          refine Eq.trans (b := some (Res.ret (AV.tuple [AV.d (D.list []), AV.agg [AV.d (D.int IntKind.i64 er), AV.d (D.int IntKind.i64 at')]]), [])) (by kernel_rfl) ?_
          rfl
end Go.Rx07.P
