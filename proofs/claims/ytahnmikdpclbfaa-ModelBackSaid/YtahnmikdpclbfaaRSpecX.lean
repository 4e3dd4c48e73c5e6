/- Trees as bytes. -/
import Derived.Test.YtahnmikdpclbfaaRSpecV
set_option linter.unusedVariables false
set_option linter.unusedSimpArgs false
namespace Go.RxTree
open Go Go.Rx
/-- A text behind its length. -/
def bytesB (s : List UInt8) : List UInt8 := uintB s.length ++ s
mutual
def exprB : T → List UInt8
  | .mk k n s l => UInt8.ofNat k.toNat :: (if k = 1 then uintB (zig n) else if k = 2 then bytesB s else exprL l)
def exprL : List T → List UInt8
  | [] => []
  | t :: r => exprB t ++ exprL r
end
theorem exprL_app : ∀ a b : List T, exprL (a ++ b) = exprL a ++ exprL b
  | [], b => rfl
  | t :: r, b => by
    show exprB t ++ exprL (r ++ b) = (exprB t ++ exprL r) ++ exprL b
    rw [exprL_app r b, List.append_assoc]
theorem exprL_take {l : List T} {i : Nat} {x : T} (h : l[i]? = some x) : exprL (l.take (i + 1)) = exprL (l.take i) ++ exprB x := by
  rw [List.take_add_one, h, exprL_app]
  simp [exprL]
theorem exprL_le {l : List T} {i : Nat} {x : T} (h : l[i]? = some x) : (exprL (l.take i)).length + (exprB x).length ≤ (exprL l).length := by
  have e := exprL_app (l.take (i + 1)) (l.drop (i + 1))
  rw [List.take_append_drop] at e
  rw [e, List.length_append, exprL_take h, List.length_append]; omega
theorem exprL_mem : ∀ {l : List T} {x : T}, x ∈ l → (exprB x).length ≤ (exprL l).length
  | a :: r, x, h => by
    show _ ≤ (exprB a ++ exprL r).length
    rw [List.length_append]
    rcases List.mem_cons.1 h with rfl | h
    · omega
    · have := exprL_mem h; omega
theorem name_len {s : List UInt8} (h : textOk 2 s = true) : s.length ≤ 32 := by
  rw [textOk_v] at h
  simp only [Bool.and_eq_true, nameOk, decide_eq_true_eq] at h
  omega
theorem expr_len : ∀ (m : Nat) (t : T), checkT t (17 - (m : Int)) = 0 → t.Ok → m ≤ 16 → (exprB t).length + 1 ≤ 64 * 2 ^ m := by
  intro m
  induction m with
  | zero =>
    intro t h _ _
    obtain ⟨k, n, s, l⟩ := t
    rw [checkT_big (by omega)] at h; omega
  | succ m ih =>
    intro t h ho hm
    obtain ⟨k, n, s, l⟩ := t
    obtain ⟨c1, c2, c3, c4⟩ := checkT_inv h
    obtain ⟨o1, o2, o3, o4, o5⟩ := ho
    have hd : (17 - ((m + 1 : Nat) : Int) + 1) = 17 - (m : Int) := by omega
    rw [hd] at c4
    have p1 := Nat.one_le_two_pow (n := m)
    have p2 : 2 ^ (m + 1) = 2 ^ m + 2 ^ m := by rw [Nat.pow_succ]; omega
    have hk := fun x hx => ih x (checkL_mem c4 hx) (OkL_mem o5 hx) (by omega)
    obtain ⟨d1, d2, d3, d4, d5, _⟩ := c2
    rw [exprB, List.length_cons]
    have hn := wf_i64.1 o2
    have hu := uintB_len10 (zig_lt hn.1 hn.2)
    by_cases hk1 : k = 1
    · rw [if_pos hk1]; omega
    · rw [if_neg hk1]
      by_cases hk2 : k = 2
      · subst hk2
        have hs := name_len c3
        have hb : (uintB s.length).length ≤ 10 := uintB_len10 (by omega)
        rw [if_pos rfl, bytesB, List.length_append]; omega
      · rw [if_neg hk2]
        match l, d3, d4, d5, hk with
        | [], _, _, _, _ => simp [exprL]; omega
        | [x], _, _, _, hk => have := hk x (by simp); simp [exprL]; omega
        | [x, y], _, _, _, hk => have h1 := hk x (by simp); have h2 := hk y (by simp); simp [exprL]; omega
        | x :: y :: z :: r, d3, d4, d5, _ =>
          exfalso
          simp only [List.length_cons] at d3 d4 d5
          by_cases a : k ≤ 4
          · have := d3 a; omega
          · by_cases b : k = 5 ∨ k = 6
            · have := d4 b; omega
            · have := d5 (by omega); omega
theorem expr_most {t : T} (h : checkT t 1 = 0) (ho : t.Ok) : (exprB t).length ≤ 4194304 := by
  have := expr_len 16 t (by simpa using h) ho (by omega)
  omega
end Go.RxTree
