/- All that a tree asks for. -/
import Derived.Test.YtghiaobecppbeaaRSpecR
import Derived.Test.YtghiaobecppbeaaRxJc
open Go Go.Rx
namespace Go.RxTree
set_option linter.unusedVariables false
set_option linter.unusedSimpArgs false
mutual
def namesT : T → List (List UInt8)
  | .mk k _ s l => (if k = 2 then [s] else []) ++ namesL l
def namesL : List T → List (List UInt8)
  | [] => []
  | t :: r => namesT t ++ namesL r
end
theorem namesL_app : ∀ a b : List T, namesL (a ++ b) = namesL a ++ namesL b
  | [], b => rfl
  | t :: r, b => by
    show namesT t ++ namesL (r ++ b) = (namesT t ++ namesL r) ++ namesL b
    rw [namesL_app r b, List.append_assoc]
theorem namesL_take {l : List T} {i : Nat} {x : T} (h : l[i]? = some x) : namesL (l.take (i + 1)) = namesL (l.take i) ++ namesT x := by
  rw [List.take_add_one, h, namesL_app]
  simp [namesL]
mutual
theorem names_wt : ∀ t : T, (namesT t).length ≤ t.wt
  | .mk k n s l => by
    rw [namesT, T.wt]
    have := namesL_wt l
    split <;> simp <;> omega
theorem namesL_wt : ∀ l : List T, (namesL l).length ≤ wtL l
  | [] => by simp [namesL, wtL]
  | t :: r => by
    have h1 := names_wt t
    have h2 := namesL_wt r
    simp only [namesL, wtL, List.length_append]
    omega
end
/-- A tree that may be has few names. -/
theorem names_few : ∀ (m : Nat) (t : T), checkT t (17 - (m : Int)) = 0 → m ≤ 16 → (namesT t).length ≤ 2 ^ m := by
  intro m
  induction m with
  | zero =>
    intro t h _
    obtain ⟨k, n, s, l⟩ := t
    rw [checkT_big (by omega)] at h; omega
  | succ m ih =>
    intro t h hm
    obtain ⟨k, n, s, l⟩ := t
    obtain ⟨c1, c2, c3, c4⟩ := checkT_inv h
    rw [namesT]
    have hd : (17 - ((m + 1 : Nat) : Int) + 1) = 17 - (m : Int) := by omega
    rw [hd] at c4
    have p1 := Nat.one_le_two_pow (n := m)
    have p2 : 2 ^ (m + 1) = 2 ^ m + 2 ^ m := by rw [Nat.pow_succ]; omega
    have hk := fun x hx => ih x (checkL_mem c4 hx) (by omega)
    obtain ⟨d1, d2, d3, d4, d5, _⟩ := c2
    by_cases hk2 : k = 2
    · have : l = [] := List.eq_nil_of_length_eq_zero (d3 (by omega))
      subst this
      rw [if_pos hk2]; simp [namesL]; omega
    · rw [if_neg hk2]
      match l, d3, d4, d5, hk with
      | [], _, _, _, _ => simp [namesL]
      | [x], _, _, _, hk => have := hk x (by simp); simp [namesL]; omega
      | [x, y], _, _, _, hk => have h1 := hk x (by simp); have h2 := hk y (by simp); simp [namesL]; omega
      | x :: y :: z :: r, d3, d4, d5, _ =>
        exfalso
        simp only [List.length_cons] at d3 d4 d5
        by_cases a : k ≤ 4
        · have := d3 a; omega
        · by_cases b : k = 5 ∨ k = 6
          · have := d4 b; omega
          · have := d5 (by omega); omega
theorem sL_len (l : List (List UInt8)) : (sL l).length = l.length := by simp [sL]
theorem sL_app (a b : List (List UInt8)) : sL (a ++ b) = sL a ++ sL b := by simp [sL]
end Go.RxTree
