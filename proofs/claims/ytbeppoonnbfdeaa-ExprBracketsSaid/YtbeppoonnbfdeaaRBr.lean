/- A part of the proof of the law: what functions of the program come to, walked by Rx, or plain facts on it. -/
import Derived.Test.YtbeppoonnbfdeaaRParse3
open Go Go.Rx Go.Proofs Go.Rx07.P Go.RxTree
set_option maxRecDepth 1000000
set_option maxHeartbeats 4000000
set_option linter.unusedVariables false
set_option linter.unusedSimpArgs false
namespace Go.Rx07.P
/-- A word, one place on. -/
def shW (w : W) : W := { w with at' := w.at' + 1 }
theorem numS_br : ∀ (r : List UInt8) (i : Nat) (v : Int), numS (i + 1) v (r ++ [41]) = (numS i v r).map fun p => (p.1, p.2 + 1)
  | [], i, v => by
    show numS (i + 1) v [41] = _
    rw [numS, numS, if_neg (by decide)]; rfl
  | c :: r, i, v => by
    rw [List.cons_append, numS, numS]
    split
    · split
      · rfl
      · exact numS_br r (i + 1) _
    · rfl
theorem nameS_br : ∀ (r : List UInt8) (i : Nat), nameS (i + 1) (r ++ [41]) = nameS i r + 1
  | [], i => by
    show nameS (i + 1) [41] = _
    rw [nameS, nameS, if_neg (by decide)]
  | c :: r, i => by
    rw [List.cons_append, nameS, nameS]
    split
    · exact nameS_br r (i + 1)
    · rfl
theorem br_get (s : List UInt8) (i : Nat) (h : i < s.length) : (40 :: (s ++ [41]))[i + 1]? = s[i]? := by
  rw [List.getElem?_cons_succ, List.getElem?_append_left h]
theorem br_end (s : List UInt8) : (40 :: (s ++ [41]))[s.length + 1]? = some 41 := by
  rw [List.getElem?_cons_succ, List.getElem?_append_right (Nat.le_refl _)]; simp
theorem br_drop (s : List UInt8) (i : Nat) (h : i ≤ s.length) : (40 :: (s ++ [41])).drop (i + 1) = s.drop i ++ [41] := by
  rw [List.drop_succ_cons, List.drop_append_of_le_length h]
theorem br_part (s : List UInt8) (i b : Nat) (h : b ≤ s.length) : ((40 :: (s ++ [41])).take (b + 1)).drop (i + 1) = (s.take b).drop i := by
  rw [List.take_succ_cons, List.drop_succ_cons, List.take_append_of_le_length h]
theorem br_name (s : List UInt8) (b : Nat) (h : b ≤ s.length) : isName (40 :: (s ++ [41])) (b + 1) = isName s b := by
  unfold isName
  by_cases hb : b < s.length
  · rw [br_get s b hb]
  · obtain rfl : b = s.length := by omega
    rw [br_end, List.getElem?_eq_none (Nat.le_refl _)]; rfl
theorem splitA_br (s : List UInt8) (ws : List W) : ∀ (m i : Nat) (acc : List W), s.length - i ≤ m → i ≤ s.length → splitA s m i acc = (ws, 0, 0) → ∀ m' pre, m + 1 ≤ m' →
    splitA (40 :: (s ++ [41])) m' (i + 1) (pre ++ acc.map shW) = (pre ++ ws.map shW ++ [⟨3, [41], 0, (s.length : Int) + 1⟩], 0, 0) := by
  have hlen : (40 :: (s ++ [41])).length = s.length + 2 := by simp
  have fin : ∀ (m' : Nat) (acc pre : List W), 1 ≤ m' → splitA (40 :: (s ++ [41])) m' (s.length + 1) (pre ++ acc.map shW) = (pre ++ acc.map shW ++ [⟨3, [41], 0, (s.length : Int) + 1⟩], 0, 0) := by
    intro m' acc pre hm
    obtain ⟨m', rfl⟩ : ∃ n, m' = n + 1 := ⟨m' - 1, by omega⟩
    have stop : ∀ (n : Nat) (a : List W), splitA (40 :: (s ++ [41])) n (s.length + 1 + 1) a = (a, 0, 0) := by
      intro n a
      cases n with
      | zero => rw [splitA]
      | succ n => rw [splitA, List.getElem?_eq_none (by omega)]
    rw [splitA, br_end]
    dsimp only
    rw [if_neg (by decide), if_neg (by decide), if_neg (by decide), if_pos (by decide), stop]
    rw [show ((40 :: (s ++ [41])).take (s.length + 1 + 1)).drop (s.length + 1) = [41] by
      rw [List.take_of_length_le (by omega), br_drop s s.length (Nat.le_refl _), List.drop_eq_nil_of_le (Nat.le_refl _)]; rfl]
    simp
  intro m
  induction m with
  | zero =>
    intro i acc hm hi h m' pre hm'
    obtain rfl : i = s.length := by omega
    rw [splitA] at h
    injection h with h _
    subst h
    exact fin m' acc pre hm'
  | succ m ih =>
    intro i acc hm hi h m' pre hm'
    by_cases he : i < s.length
    · obtain ⟨m', rfl⟩ : ∃ n, m' = n + 1 := ⟨m' - 1, by omega⟩
      rw [splitA] at h ⊢
      rw [br_get s i he]
      have hx : s[i]? = some s[i] := List.getElem?_eq_getElem he
      rw [hx] at h ⊢
      generalize s[i] = c at *
      dsimp only at h ⊢
      have hdr : (40 :: (s ++ [41])).drop (i + 1 + 1) = s.drop (i + 1) ++ [41] := br_drop s (i + 1) (by omega)
      have hdl : (s.drop (i + 1)).length = s.length - (i + 1) := List.length_drop
      have hcast : ((i + 1 : Nat) : Int) = (i : Int) + 1 := by omega
      have happ : ∀ w : W, pre ++ acc.map shW ++ [shW w] = pre ++ (acc ++ [w]).map shW := by intro w; simp
      split
      · rename_i hk
        rw [if_pos hk] at h
        exact ih (i + 1) acc (by omega) (by omega) h m' pre (by omega)
      · rename_i hk0
        rw [if_neg hk0] at h
        split
        · rename_i hk
          rw [if_pos hk] at h
          have hkd := kind_d hk
          rw [hdr, numS_br]
          cases hn : numS (i + 1) (dig c) (s.drop (i + 1)) with
          | none => rw [hn] at h; injection h with _ h; injection h with h _; exact absurd h (by decide)
          | some p =>
            obtain ⟨v, b⟩ := p
            rw [hn] at h
            have hb := numS_b _ _ _ _ _ hn (by unfold dig; omega) (by unfold dig; omega)
            simp only [Option.map_some] at h ⊢
            rw [br_name s b (by omega)]
            by_cases hN : isName s b = true
            · rw [if_pos hN] at h; injection h with _ h; injection h with h _; exact absurd h (by decide)
            · rw [if_neg hN] at h ⊢
              have := ih b _ (by omega) (by omega) h m' pre (by omega)
              rw [← happ] at this
              rw [hcast]
              exact this
        · rename_i hk1
          rw [if_neg hk1] at h
          split
          · rename_i hk
            rw [if_pos hk] at h
            rw [hdr, nameS_br]
            have hb := nameS_b (s.drop (i + 1)) (i + 1)
            generalize nameS (i + 1) (s.drop (i + 1)) = b at *
            rw [br_part s i b (by omega)]
            by_cases hN : b - i > 32
            · rw [if_pos hN] at h; injection h with _ h; injection h with h _; exact absurd h (by decide)
            · rw [if_neg hN] at h
              rw [if_neg (by omega)]
              have := ih b _ (by omega) (by omega) h m' pre (by omega)
              rw [← happ] at this
              rw [hcast]
              exact this
          · rename_i hk2
            rw [if_neg hk2] at h
            split
            · rename_i hk
              rw [if_pos hk] at h
              rw [br_part s i (i + 1) (by omega)]
              have := ih (i + 1) _ (by omega) (by omega) h m' pre (by omega)
              rw [← happ] at this
              rw [hcast]
              exact this
            · rename_i hk3
              rw [if_neg hk3] at h
              injection h with _ h; injection h with h _; exact absurd h (by decide)
    · obtain rfl : i = s.length := by omega
      rw [splitA, List.getElem?_eq_none (Nat.le_refl _)] at h
      injection h with h _
      subst h
      exact fin m' acc pre (by omega)
/-- A text's words, in brackets. -/
def brW (l : List W) (n : Int) : List W := ⟨3, [40], 0, 0⟩ :: (l.map shW ++ [⟨3, [41], 0, n⟩])
theorem splitS_br (s : List UInt8) (hs : s.length ≤ 4000) (l : List W) (h : splitS s = (l, 0, 0)) : splitS (40 :: (s ++ [41])) = (brW l ((s.length : Int) + 1), 0, 0) := by
  unfold splitS at h ⊢
  have hlen : (40 :: (s ++ [41])).length = s.length + 2 := by simp
  rw [if_neg (by omega)] at h
  rw [if_neg (by omega), hlen, splitA]
  rw [show (40 :: (s ++ [41]))[0]? = some 40 from rfl]
  dsimp only
  rw [if_neg (by decide), if_neg (by decide), if_neg (by decide), if_pos (by decide)]
  have := splitA_br s l s.length 0 [] (by omega) (Nat.zero_le _) h (s.length + 1) [⟨3, [40], 0, 0⟩] (by omega)
  exact this
end Go.Rx07.P
