/- A part of the proof of the law: what functions of the program come to, walked by Rx, or plain facts on it. -/
import Derived.Test.YtbeppoonnbfdeaaRBr
open Go Go.Rx Go.Proofs Go.Rx07.P Go.RxTree
set_option maxRecDepth 1000000
set_option maxHeartbeats 4000000
set_option linter.unusedVariables false
set_option linter.unusedSimpArgs false
namespace Go.Rx07.P
theorem brW_get (l : List W) (n : Int) (i : Nat) (h : i < l.length) : (brW l n)[i + 1]? = (l[i]?).map shW := by
  unfold brW
  rw [List.getElem?_cons_succ, List.getElem?_append_left (by simpa using h), List.getElem?_map]
theorem brW_end (l : List W) (n : Int) : (brW l n)[l.length + 1]? = some ⟨3, [41], 0, n⟩ := by
  unfold brW
  rw [List.getElem?_cons_succ, List.getElem?_append_right (by simp)]; simp
theorem brW_len (l : List W) (n : Int) : (brW l n).length = l.length + 2 := by simp [brW]
theorem sign_br (l : List W) (n : Int) (i : Nat) (h : i < l.length) : signL (brW l n) (i + 1) = signL l i := by
  unfold signL
  rw [brW_get l n i h, List.getElem?_eq_getElem h]; rfl
theorem sign_brE (l : List W) (n : Int) : signL (brW l n) (l.length + 1) = [41] := by
  unfold signL
  rw [brW_end]; rfl
theorem sign_end (l : List W) : signL l l.length = [] := by
  unfold signL
  rw [List.getElem?_eq_none (Nat.le_refl _)]
theorem ends_br (l : List W) (n : Int) (lo : Int) (b : Bool) (j : Nat) (h : j ≤ l.length) : endsK (brW l n) lo b (j + 1) ↔ endsK l lo b j := by
  by_cases hj : j < l.length
  · unfold endsK; rw [sign_br l n j hj]
  · obtain rfl : j = l.length := by omega
    unfold endsK
    rw [sign_brE, sign_end]
    exact ⟨fun _ => .inl rfl, fun _ => .inl rfl⟩
/-- What is read lies between. -/
theorem loop_lt (f : Nat → Rs) (l : List W) (lo : Int) (hf : ∀ q y j, q + 1 ≤ l.length → f (q + 1) = .tree y j → q + 1 < j ∧ j ≤ l.length) : ∀ (m j : Nat) (x : T) (b : Bool) (y : T) (j2 : Nat), j ≤ l.length → loopS f l lo m j x b = .tree y j2 → j ≤ j2 ∧ j2 ≤ l.length := by
  intro m
  induction m with
  | zero => intro j x b y j2 hj h; rw [loopS] at h; injection h with _ h; omega
  | succ m ih =>
    intro j x b y j2 hj h
    rw [loopS] at h
    split at h
    · injection h with _ h; omega
    · rename_i he
      have hjl : j < l.length := signL_lt (fun h => he (.inl (by rw [h]; rfl)))
      cases hr : f (j + 1) with
      | bad e a => rw [hr] at h; cases h
      | tree z j' =>
        rw [hr] at h
        have := hf j z j' (by omega) hr
        have := ih j' _ true y j2 this.2 h
        omega
theorem par_lt (l : List W) (L : Int) : ∀ M : Nat,
    (∀ (i : Nat) (d : Int) (x : T) (j : Nat), i ≤ l.length → oneS l L M i d = .tree x j → i < j ∧ j ≤ l.length) ∧
    (∀ (i : Nat) (lo d : Int) (x : T) (j : Nat), i ≤ l.length → exprS l L M i lo d = .tree x j → i < j ∧ j ≤ l.length) := by
  intro M
  induction M with
  | zero => exact ⟨fun i d x j _ h => (by rw [oneS] at h; cases h), fun i lo d x j _ h => (by rw [exprS] at h; cases h)⟩
  | succ M ih =>
    obtain ⟨ih1, ih2⟩ := ih
    refine ⟨fun i d x j hi h => ?_, fun i lo d x j hi h => ?_⟩
    · rw [oneS] at h
      split at h
      · cases h
      · split at h
        · rename_i g1
          have hil : i < l.length := signL_lt (by rcases g1 with g | g <;> rw [g] <;> simp)
          cases hr : oneS l L M (i + 1) (d + 1) with
          | bad e a => rw [hr] at h; cases h
          | tree y j' =>
            rw [hr] at h
            injection h with _ h
            have := ih1 _ _ _ _ (by omega) hr
            omega
        · split at h
          · rename_i g2
            have hil : i < l.length := signL_lt (by rw [g2]; simp)
            cases hr : exprS l L M (i + 1) 1 (d + 1) with
            | bad e a => rw [hr] at h; cases h
            | tree y j' =>
              rw [hr] at h
              dsimp only at h
              split at h
              · rename_i g3
                have hjl : j' < l.length := signL_lt (by rw [g3]; simp)
                injection h with _ h
                have := ih2 _ _ _ _ _ (by omega) hr
                omega
              · cases h
          · split at h
            · cases h
            · rename_i w hw
              have := (List.getElem?_eq_some_iff.1 hw).1
              split at h
              · cases h
              · injection h with _ h; omega
    · rw [exprS] at h
      split at h
      · exact ih1 i d x j hi h
      · cases hr : exprS l L M i (lo + 1) d with
        | bad e a => rw [hr] at h; cases h
        | tree y j' =>
          rw [hr] at h
          have h1 := ih2 _ _ _ _ _ hi hr
          have h2 := loop_lt _ l lo (fun q y j hq h => ih2 (q + 1) (lo + 1) (d + 1) y j hq h) _ _ _ _ _ _ h1.2 h
          omega
/-- The same tree, one place on; or it lies too deep. -/
def BrOk (x : T) (j : Nat) (r : Rs) : Prop := r = .tree x (j + 1) ∨ ∃ a, r = .bad 6 a
theorem loop_br (l : List W) (n lo : Int) (f f' : Nat → Rs) (hlt : ∀ q y j, q + 1 ≤ l.length → f (q + 1) = .tree y j → q + 1 < j ∧ j ≤ l.length) (hf : ∀ q y j, q + 1 ≤ l.length → f (q + 1) = .tree y j → BrOk y j (f' (q + 1 + 1))) :
    ∀ (m j : Nat) (x : T) (b : Bool) (y : T) (j2 m' : Nat), l.length - j ≤ m → j ≤ l.length → m ≤ m' → loopS f l lo m j x b = .tree y j2 → BrOk y j2 (loopS f' (brW l n) lo m' (j + 1) x b) := by
  intro m
  induction m with
  | zero =>
    intro j x b y j2 m' hm hj hm' h
    rw [loopS] at h
    injection h with h1 h2
    subst h1 h2
    cases m' with
    | zero => exact .inl rfl
    | succ m' =>
      rw [loopS, if_pos ((ends_br l n lo b j hj).2 (.inl (by rw [show j = l.length by omega, sign_end]; rfl)))]
      exact .inl rfl
  | succ m ih =>
    intro j x b y j2 m' hm hj hm' h
    obtain ⟨m', rfl⟩ : ∃ k, m' = k + 1 := ⟨m' - 1, by omega⟩
    rw [loopS] at h ⊢
    by_cases he : endsK l lo b j
    · rw [if_pos he] at h
      rw [if_pos ((ends_br l n lo b j hj).2 he)]
      injection h with h1 h2
      subst h1 h2
      exact .inl rfl
    · rw [if_neg he] at h
      rw [if_neg (fun h => he ((ends_br l n lo b j hj).1 h))]
      have hjl : j < l.length := signL_lt (fun h => he (.inl (by rw [h]; rfl)))
      cases hr : f (j + 1) with
      | bad e a => rw [hr] at h; cases h
      | tree z j' =>
        rw [hr] at h
        have h1 := hlt j z j' (by omega) hr
        rcases hf j z j' (by omega) hr with h2 | ⟨a, h2⟩
        · rw [h2]
          dsimp only at h ⊢
          rw [sign_br l n j hjl]
          exact ih j' _ true y j2 m' (by omega) h1.2 (by omega) h
        · rw [h2]
          exact .inr ⟨a, rfl⟩
theorem par_br (l : List W) (L L' n : Int) : ∀ M : Nat,
    (∀ (i : Nat) (d : Int) (x : T) (j M' : Nat), i ≤ l.length → M ≤ M' → oneS l L M i d = .tree x j → BrOk x j (oneS (brW l n) L' M' (i + 1) (d + 1))) ∧
    (∀ (i : Nat) (lo d : Int) (x : T) (j M' : Nat), i ≤ l.length → M ≤ M' → exprS l L M i lo d = .tree x j → BrOk x j (exprS (brW l n) L' M' (i + 1) lo (d + 1))) := by
  intro M
  induction M with
  | zero => exact ⟨fun i d x j M' _ _ h => (by rw [oneS] at h; cases h), fun i lo d x j M' _ _ h => (by rw [exprS] at h; cases h)⟩
  | succ M ih =>
    obtain ⟨ih1, ih2⟩ := ih
    refine ⟨fun i d x j M' hi hM h => ?_, fun i lo d x j M' hi hM h => ?_⟩
    · obtain ⟨M', rfl⟩ : ∃ k, M' = k + 1 := ⟨M' - 1, by omega⟩
      rw [oneS] at h ⊢
      by_cases g0 : d > 16
      · rw [if_pos g0] at h; cases h
      rw [if_neg g0] at h
      by_cases g0' : d + 1 > 16
      · rw [if_pos g0']; exact .inr ⟨_, rfl⟩
      rw [if_neg g0']
      have hil : i < l.length := by
        have := (par_lt l L (M + 1)).1 i d x j hi (by rw [oneS, if_neg g0]; exact h)
        omega
      rw [sign_br l n i hil]
      by_cases g1 : signL l i = [45] ∨ signL l i = [33]
      · rw [if_pos g1] at h ⊢
        cases hr : oneS l L M (i + 1) (d + 1) with
        | bad e a => rw [hr] at h; cases h
        | tree y j' =>
          rw [hr] at h
          injection h with e1 e2
          subst e1 e2
          rcases ih1 (i + 1) (d + 1) y j' M' (by omega) (by omega) hr with q | ⟨a, q⟩
          · rw [q]; exact .inl rfl
          · rw [q]; exact .inr ⟨a, rfl⟩
      rw [if_neg g1] at h ⊢
      by_cases g2 : signL l i = [40]
      · rw [if_pos g2] at h ⊢
        cases hr : exprS l L M (i + 1) 1 (d + 1) with
        | bad e a => rw [hr] at h; cases h
        | tree y j' =>
          rw [hr] at h
          dsimp only at h
          by_cases g3 : signL l j' = [41]
          · rw [if_pos g3] at h
            have hjl : j' < l.length := signL_lt (by rw [g3]; simp)
            injection h with e1 e2
            subst e1 e2
            rcases ih2 (i + 1) 1 (d + 1) y j' M' (by omega) (by omega) hr with q | ⟨a, q⟩
            · rw [q]
              dsimp only
              rw [sign_br l n j' hjl, if_pos g3]
              exact .inl rfl
            · rw [q]; exact .inr ⟨a, rfl⟩
          · rw [if_neg g3] at h; cases h
      rw [if_neg g2] at h ⊢
      rw [brW_get l n i hil]
      have hw : l[i]? = some l[i] := List.getElem?_eq_getElem hil
      rw [hw] at h ⊢
      generalize l[i] = w at *
      dsimp only [Option.map_some] at h ⊢
      by_cases g3 : signL l i ≠ []
      · rw [if_pos g3] at h; cases h
      · rw [if_neg g3] at h ⊢
        injection h with e1 e2
        subst e1 e2
        exact .inl rfl
    · obtain ⟨M', rfl⟩ : ∃ k, M' = k + 1 := ⟨M' - 1, by omega⟩
      rw [exprS] at h ⊢
      by_cases g0 : lo > 5
      · rw [if_pos g0] at h ⊢
        exact ih1 i d x j M' hi (by omega) h
      · rw [if_neg g0] at h ⊢
        cases hr : exprS l L M i (lo + 1) d with
        | bad e a => rw [hr] at h; cases h
        | tree y j' =>
          rw [hr] at h
          have h1 := (par_lt l L M).2 _ _ _ _ _ hi hr
          rcases ih2 i (lo + 1) d y j' M' hi (by omega) hr with q | ⟨a, q⟩
          · rw [q]
            dsimp only at h ⊢
            exact loop_br l n lo _ _ (fun q y j hq h => (par_lt l L M).2 (q + 1) (lo + 1) (d + 1) y j hq h) (fun q y j hq h => ih2 (q + 1) (lo + 1) (d + 1) y j M' hq (by omega) h) _ j' y false x j _ (by omega) h1.2 (by rw [brW_len]; omega) h
          · rw [q]; exact .inr ⟨a, rfl⟩
theorem brW_past (l : List W) (n : Int) : signL (brW l n) (l.length + 2) = [] := by
  have := sign_end (brW l n)
  rwa [brW_len] at this
/-- In brackets: at each level. -/
theorem expr_br (l : List W) (L' n : Int) (x : T) (M : Nat) (h : exprS (brW l n) L' M 1 1 2 = .tree x (l.length + 1) ∨ ∃ a, exprS (brW l n) L' M 1 1 2 = .bad 6 a) :
    ∀ (e : Nat) (lo : Int), lo + (e : Int) = 6 → 1 ≤ lo → exprS (brW l n) L' (M + 2 + e) 0 lo 1 = .tree x (l.length + 2) ∨ ∃ a, exprS (brW l n) L' (M + 2 + e) 0 lo 1 = .bad 6 a := by
  intro e
  induction e with
  | zero =>
    intro lo hlo h1
    rw [show M + 2 + 0 = (M + 1) + 1 from rfl, exprS, if_pos (by omega), oneS, if_neg (by decide), show signL (brW l n) 0 = [40] from rfl, if_neg (by decide), if_pos rfl]
    rcases h with h | ⟨a, h⟩
    · rw [show (0 + 1 : Nat) = 1 from rfl, show (1 + 1 : Int) = 2 from rfl, h]
      dsimp only
      rw [sign_brE, if_pos rfl]
      exact .inl rfl
    · rw [show (0 + 1 : Nat) = 1 from rfl, show (1 + 1 : Int) = 2 from rfl, h]
      exact .inr ⟨a, rfl⟩
  | succ e ih =>
    intro lo hlo h1
    rw [show M + 2 + (e + 1) = (M + 2 + e) + 1 from rfl, exprS, if_neg (by omega)]
    rcases ih (lo + 1) (by omega) (by omega) with h | ⟨a, h⟩
    · rw [h]
      dsimp only
      rw [brW_len, loopS, if_pos (.inl (by rw [brW_past]; rfl))]
      exact .inl rfl
    · rw [h]; exact .inr ⟨a, rfl⟩
theorem parseS_br (s : List UInt8) (hs : s.length ≤ 4000) (x : T) (at' : Int) (h : parseS s = (x, 0, at')) :
    (parseS (40 :: (s ++ [41]))).2.1 = 6 ∨ ((parseS (40 :: (s ++ [41]))).2.1 = 0 ∧ (parseS (40 :: (s ++ [41]))).1 = x) := by
  have hlen : (40 :: (s ++ [41])).length = s.length + 2 := by simp
  unfold parseS at h
  by_cases q0 : (splitS s).2.1 = 0
  · rw [if_neg (fun h => h q0)] at h
    obtain ⟨hat, hg⟩ : (splitS s).2.2 = 0 ∧ ∀ w ∈ (splitS s).1, w.Good s.length := by
      rcases splitS_good s with ⟨_, _, q, _, q2⟩ | ⟨_, q, _⟩
      · exact ⟨q, q2⟩
      · exact absurd q0 q
    have hsp : splitS s = ((splitS s).1, 0, 0) := Prod.ext rfl (Prod.ext q0 hat)
    have hbr := splitS_br s hs _ hsp
    unfold parseS
    rw [hbr]
    generalize (splitS s).1 = l at *
    dsimp only
    rw [if_neg (fun h => h rfl), hlen]
    cases hr : exprS l s.length (8 * l.length + 8) 0 1 1 with
    | bad e a =>
      rw [hr] at h
      injection h with _ h; injection h with h _
      have hf := (fine l s.length hg (8 * l.length + 8)).2 0 1 1 (by omega) (by omega) (by omega) (by omega)
      rw [hr] at hf
      rcases hf.1 with q | q <;> rw [q] at h <;> exact absurd h (by decide)
    | tree y j =>
      rw [hr] at h
      dsimp only at h
      by_cases hj : j < l.length
      · rw [if_pos hj] at h; injection h with _ h; injection h with h _; exact absurd h (by decide)
      · rw [if_neg hj] at h
        by_cases hc : checkT y 1 = 0
        · rw [if_pos hc] at h
          injection h with e1 _
          subst e1
          have hlt := (par_lt l s.length _).2 _ _ _ _ _ (Nat.zero_le _) hr
          obtain rfl : j = l.length := by omega
          have := (par_br l s.length ((s.length + 2 : Nat) : Int) ((s.length : Int) + 1) _).2 0 1 1 y l.length (8 * (l.length + 2) + 1) (Nat.zero_le _) (by omega) hr
          have := expr_br l ((s.length + 2 : Nat) : Int) ((s.length : Int) + 1) y (8 * (l.length + 2) + 1) this 5 1 rfl (by omega)
          rw [show 8 * (brW l ((s.length : Int) + 1)).length + 8 = 8 * (l.length + 2) + 1 + 2 + 5 by rw [brW_len]]
          rcases this with q | ⟨a, q⟩
          · rw [q]
            dsimp only
            rw [brW_len, if_neg (Nat.lt_irrefl _), if_pos hc]
            exact .inr ⟨rfl, rfl⟩
          · rw [q]
            exact .inl rfl
        · rw [if_neg hc] at h; injection h with _ h; injection h with h _; exact absurd h hc
  · rw [if_pos q0] at h
    injection h with _ h; injection h with h _; exact absurd h q0
end Go.Rx07.P
