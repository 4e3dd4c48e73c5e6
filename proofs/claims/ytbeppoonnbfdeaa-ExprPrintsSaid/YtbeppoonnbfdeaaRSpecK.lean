/- Trees as texts. -/
import Derived.Test.YtbeppoonnbfdeaaRSpecB
import Derived.Test.YtbeppoonnbfdeaaRSpecE
set_option linter.unusedVariables false
set_option linter.unusedSimpArgs false
namespace Go.RxTree
open Go Go.Rx
/-- A number's digits. -/
def digs (n : Nat) : List UInt8 := if n < 10 then [UInt8.ofNat (48 + n)] else digs (n / 10) ++ [UInt8.ofNat (48 + n % 10)]
termination_by n
decreasing_by omega
theorem digs_s {n : Nat} (h : n < 10) : digs n = [UInt8.ofNat (48 + n)] := by rw [digs, if_pos h]
theorem digs_l {n : Nat} (h : ¬ n < 10) : digs n = digs (n / 10) ++ [UInt8.ofNat (48 + n % 10)] := by rw [digs, if_neg h]
theorem digs_len : ∀ (m n : Nat), n < 10 ^ (m + 1) → (digs n).length ≤ m + 1 := by
  intro m
  induction m with
  | zero => intro n h; rw [digs_s (by simpa using h)]; simp
  | succ m ih =>
    intro n h
    by_cases h1 : n < 10
    · rw [digs_s h1]; simp
    · rw [digs_l h1]
      have := ih (n / 10) (by rw [Nat.pow_succ] at h; omega)
      simp; omega
def signK (k : Int) : List UInt8 := if k = 14 then [124] else if k = 13 then [38] else if k = 11 then [61] else if k = 12 then [60] else if k = 7 then [43] else if k = 8 then [45] else if k = 9 then [42] else [47]
def leftK (k : Int) : Int := if k = 5 ∨ k = 6 then 6 else if levelK k = 3 then 4 else levelK k
/-- A node's text, of its parts' ones. -/
def nodeS (k n : Int) (s : List UInt8) (lo : Int) (l : List (List UInt8)) : List UInt8 :=
  if k = 1 then digs n.toNat else if k = 2 then s else if k = 3 then [121, 101, 115] else if k = 4 then [110, 111]
  else if k = 5 then [45] ++ l[0]?.getD [] else if k = 6 then [33] ++ l[0]?.getD []
  else if levelK k < lo then [40] ++ ((((l[0]?.getD [] ++ [32]) ++ signK k) ++ [32]) ++ l[1]?.getD []) ++ [41]
  else (((l[0]?.getD [] ++ [32]) ++ signK k) ++ [32]) ++ l[1]?.getD []
mutual
def textS : T → Int → List UInt8
  | .mk k n s l, lo => nodeS k n s lo (textK l (leftK k) (levelK k + 1))
def textK : List T → Int → Int → List (List UInt8)
  | [], _, _ => []
  | x :: r, a, b => textS x a :: textK r b b
end
theorem text_1 (n lo : Int) (s : List UInt8) (l : List T) : textS (.mk 1 n s l) lo = digs n.toNat := by rw [textS]; rfl
theorem text_2 (n lo : Int) (s : List UInt8) (l : List T) : textS (.mk 2 n s l) lo = s := by rw [textS]; rfl
theorem text_3 (n lo : Int) (s : List UInt8) (l : List T) : textS (.mk 3 n s l) lo = [121, 101, 115] := by rw [textS]; rfl
theorem text_4 (n lo : Int) (s : List UInt8) (l : List T) : textS (.mk 4 n s l) lo = [110, 111] := by rw [textS]; rfl
theorem text_5 (n lo : Int) (s : List UInt8) (x : T) : textS (.mk 5 n s [x]) lo = [45] ++ textS x 6 := by rw [textS]; rfl
theorem text_6 (n lo : Int) (s : List UInt8) (x : T) : textS (.mk 6 n s [x]) lo = [33] ++ textS x 6 := by rw [textS]; rfl
def bodyS (k : Int) (x y : T) : List UInt8 := (((textS x (leftK k) ++ [32]) ++ signK k) ++ [32]) ++ textS y (levelK k + 1)
theorem text_7 {k : Int} (h : 7 ≤ k) (n lo : Int) (s : List UInt8) (x y : T) : textS (.mk k n s [x, y]) lo = if levelK k < lo then [40] ++ bodyS k x y ++ [41] else bodyS k x y := by
  rw [textS]
  unfold nodeS
  rw [if_neg (by omega), if_neg (by omega), if_neg (by omega), if_neg (by omega), if_neg (by omega), if_neg (by omega)]
  rfl
theorem levelK_b (k : Int) : 1 ≤ levelK k ∧ levelK k ≤ 6 := by
  unfold levelK
  repeat' split
  all_goals omega
theorem signK_len (k : Int) : (signK k).length = 1 := by unfold signK; repeat' split
                                                         all_goals rfl
/-- No text is long of a tree that may be. -/
theorem textS_len : ∀ (e : Nat) (t : T) (lo : Int), t.Ok → checkT t (17 - (e : Int)) = 0 → (textS t lo).length + 10 ≤ 40 * 2 ^ e := by
  intro e
  induction e with
  | zero =>
    intro t lo ho h
    obtain ⟨k, n, s, l⟩ := t
    exact absurd (checkT_inv h).1 (by omega)
  | succ e ih =>
    intro t lo ho h
    obtain ⟨k, n, s, l⟩ := t
    obtain ⟨c1, ⟨c2, c3, c4, c5, c6, c7, c8⟩, c9, c10⟩ := checkT_inv h
    obtain ⟨ho1, ho2, ho3, ho4, ho5⟩ := ho
    have hp : 1 ≤ 2 ^ e := Nat.one_le_two_pow
    have hk : ∀ x ∈ l, ∀ a, (textS x a).length + 10 ≤ 40 * 2 ^ e := fun x hx a => ih x a (OkL_mem ho5 hx) (by have := checkL_mem c10 hx; rw [show (17 : Int) - ((e + 1 : Nat) : Int) + 1 = 17 - (e : Int) by omega] at this; exact this)
    rw [textS, Nat.pow_succ]
    unfold nodeS
    split
    · have hn := (wf_i64 (n := n)).1 ho2
      have := digs_len 18 n.toNat (by have : (10 : Nat) ^ 19 = 10000000000000000000 := by decide
                                      omega)
      omega
    · split
      · rename_i h2
        subst h2
        rw [textOk_v, Bool.and_eq_true] at c9
        have : s.length ≤ 32 := by
          have := c9.1
          unfold nameOk at this
          simp only [Bool.and_eq_true, decide_eq_true_eq] at this
          exact this.2.1
        omega
      · split
        · simp; omega
        · split
          · simp; omega
          · split
            · match l, c5 (by omega) with
              | [x], _ =>
                have := hk x (by simp) (leftK k)
                simp [textK]; omega
            · split
              · match l, c5 (by omega) with
                | [x], _ =>
                  have := hk x (by simp) (leftK k)
                  simp [textK]; omega
              · have hs := signK_len k
                match l, c6 (by omega) with
                | [x, y], _ =>
                  have h1 := hk x (by simp) (leftK k)
                  have h2 := hk y (by simp) (levelK k + 1)
                  split <;> simp [textK, hs] <;> omega
end Go.RxTree
