/- What is known, reckoned. -/
import Derived.Test.YtghiaobecppbeaaRSpecR
open Go Go.Rx
namespace Go.RxTree
set_option linter.unusedVariables false
set_option linter.unusedSimpArgs false
def yesT (b : Bool) : T := .mk (if b = true then 3 else 4) 0 [] []
def numT (n : Int) : T := .mk 1 n [] []
def plainK (k : Int) : Bool := decide (k = 1 ∨ k = 3 ∨ k = 4)
def mostN : Int := 9223372036854775807
/-- What two numbers come to; none: that is not reckoned. -/
def sumsT (k a b : Int) : Option T :=
  if k = 7 then (if a + b ≤ mostN then some (numT (a + b)) else none)
  else if k = 8 then (if b ≤ a then some (numT (a - b)) else none)
  else if k = 9 then (if a * b ≤ mostN then some (numT (a * b)) else none)
  else if k = 10 then (if 0 < b then some (numT (a / b)) else none)
  else if k = 12 then some (yesT (decide (a < b)))
  else none
def twoT (k : Int) (a b : T) : T :=
  if k = 13 then (if a.kind = 4 then a else if a.kind = 3 then b else .mk k 0 [] [a, b])
  else if k = 14 then (if a.kind = 3 then a else if a.kind = 4 then b else .mk k 0 [] [a, b])
  else if plainK a.kind = true ∧ plainK b.kind = true then
    (if k = 11 then yesT (a.kind == b.kind && a.n == b.n) else (sumsT k a.n b.n).getD (.mk k 0 [] [a, b]))
  else .mk k 0 [] [a, b]
def oneT (k : Int) (a : T) : T :=
  if k = 6 ∧ plainK a.kind = true then yesT (decide (a.kind = 4)) else if k = 5 ∧ a.kind = 1 ∧ a.n = 0 then a else .mk k 0 [] [a]
mutual
def foldT : T → T
  | .mk k n s l => match foldL l with
    | [] => .mk k n s []
    | [a] => oneT k a
    | a :: b :: r => if r = [] then twoT k a b else oneT k a
def foldL : List T → List T
  | [] => []
  | t :: r => foldT t :: foldL r
end
def bothT (k a b : Int) : Option T := if k = 11 then some (yesT (a == b)) else sumsT k a b
def bothV (k a b : Int) : T :=
  if k = 7 then numT (IntKind.i64.wrap (a + b)) else if k = 8 then numT (IntKind.i64.wrap (a - b)) else if k = 9 then numT (IntKind.i64.wrap (a * b))
  else if k = 10 then (if b = 0 then .mk 0 0 [] [] else numT (IntKind.i64.wrap (a.tdiv b))) else if k = 12 then yesT (decide (a < b)) else if k = 11 then yesT (a == b) else .mk 0 0 [] []
section
variable {a b : Int}
theorem tdiv_b (ha : 0 ≤ a ∧ a ≤ 9223372036854775807) (hb : 0 ≤ b ∧ b ≤ 9223372036854775807) : 0 ≤ a.tdiv b ∧ a.tdiv b ≤ a := by
  rw [Int.tdiv_eq_ediv_of_nonneg ha.1]
  exact ⟨Int.ediv_nonneg ha.1 hb.1, Int.ediv_le_self _ ha.1⟩
theorem mul_most (ha : 0 ≤ a ∧ a ≤ 9223372036854775807) (h : a ≠ 0) : (b ≤ (9223372036854775807 : Int).tdiv a) ↔ a * b ≤ 9223372036854775807 := by
  rw [Int.tdiv_eq_ediv_of_nonneg (by omega), Int.le_ediv_iff_mul_le (by omega), Int.mul_comm]
end
section
variable {k a b : Int}
theorem s7 : sumsT 7 a b = if a + b ≤ 9223372036854775807 then some (numT (a + b)) else none := rfl
theorem s8 : sumsT 8 a b = if b ≤ a then some (numT (a - b)) else none := rfl
theorem s9 : sumsT 9 a b = if a * b ≤ 9223372036854775807 then some (numT (a * b)) else none := rfl
theorem s10 : sumsT 10 a b = if 0 < b then some (numT (a / b)) else none := rfl
theorem s12 : sumsT 12 a b = some (yesT (decide (a < b))) := rfl
theorem sE (h1 : k ≠ 7) (h2 : k ≠ 8) (h3 : k ≠ 9) (h4 : k ≠ 10) (h5 : k ≠ 12) : sumsT k a b = none := by unfold sumsT; rw [if_neg h1, if_neg h2, if_neg h3, if_neg h4, if_neg h5]
theorem b11 : bothT 11 a b = some (yesT (a == b)) := rfl
theorem bN (h : k ≠ 11) : bothT k a b = sumsT k a b := by unfold bothT; rw [if_neg h]
theorem bE (h1 : k ≠ 7) (h2 : k ≠ 8) (h3 : k ≠ 9) (h4 : k ≠ 10) (h5 : k ≠ 12) (h6 : k ≠ 11) : bothV k a b = .mk 0 0 [] [] := by unfold bothV; rw [if_neg h1, if_neg h2, if_neg h3, if_neg h4, if_neg h5, if_neg h6]
theorem iss {p : Prop} [Decidable p] {x : T} : (if p then some x else none : Option T).isSome = decide p := by split <;> simp [*]
end
theorem bV10 {a b : Int} (h : b ≠ 0) : bothV 10 a b = numT (IntKind.i64.wrap (a.tdiv b)) := by unfold bothV; simp [h]
section
variable {k : Int} {a b : T}
theorem t13a (h : a.kind = 4) : twoT 13 a b = a := by unfold twoT; rw [if_pos rfl, if_pos h]
theorem t13b (h : a.kind ≠ 4) (h1 : a.kind = 3) : twoT 13 a b = b := by unfold twoT; rw [if_pos rfl, if_neg h, if_pos h1]
theorem t13c (h : a.kind ≠ 4) (h1 : a.kind ≠ 3) : twoT 13 a b = .mk 13 0 [] [a, b] := by unfold twoT; rw [if_pos rfl, if_neg h, if_neg h1]
theorem t14a (h : a.kind = 3) : twoT 14 a b = a := by unfold twoT; rw [if_neg (by omega), if_pos rfl, if_pos h]
theorem t14b (h : a.kind ≠ 3) (h1 : a.kind = 4) : twoT 14 a b = b := by unfold twoT; rw [if_neg (by omega), if_pos rfl, if_neg h, if_pos h1]
theorem t14c (h : a.kind ≠ 3) (h1 : a.kind ≠ 4) : twoT 14 a b = .mk 14 0 [] [a, b] := by unfold twoT; rw [if_neg (by omega), if_pos rfl, if_neg h, if_neg h1]
theorem t11 (h1 : plainK a.kind = true) (h2 : plainK b.kind = true) : twoT 11 a b = yesT (a.kind == b.kind && a.n == b.n) := by unfold twoT; rw [if_neg (by omega), if_neg (by omega), if_pos ⟨h1, h2⟩, if_pos rfl]
theorem tS (h1 : k ≠ 13) (h2 : k ≠ 14) (h3 : plainK a.kind = true) (h4 : plainK b.kind = true) (h5 : k ≠ 11) : twoT k a b = (sumsT k a.n b.n).getD (.mk k 0 [] [a, b]) := by unfold twoT; rw [if_neg h1, if_neg h2, if_pos ⟨h3, h4⟩, if_neg h5]
theorem tN (h1 : k ≠ 13) (h2 : k ≠ 14) (h3 : plainK a.kind = false ∨ plainK b.kind = false) : twoT k a b = .mk k 0 [] [a, b] := by
  unfold twoT; rw [if_neg h1, if_neg h2, if_neg]
  rintro ⟨h4, h5⟩
  rcases h3 with h | h
  · rw [h] at h4; cases h4
  · rw [h] at h5; cases h5
theorem getD_some {o : Option T} {x y : T} (h : o.isSome = true) : o.getD x = o.getD y := by cases o <;> first | rfl | cases h
theorem getD_none {o : Option T} {x : T} (h : o.isSome = false) : o.getD x = x := by cases o <;> first | rfl | cases h
end
def InN (n : Int) : Prop := 0 ≤ n ∧ n ≤ 9223372036854775807
theorem sums_n {k a b : Int} (ha : InN a) (hb : InN b) {w : T} (hw : InN w.n) : InN ((sumsT k a b).getD w).n := by
  have hN0 : InN (yesT (decide (a < b))).n := ⟨by show (0 : Int) ≤ 0; omega, by show (0 : Int) ≤ 9223372036854775807; omega⟩
  unfold InN at *
  unfold sumsT mostN
  split
  · split <;> simp only [Option.getD_some, Option.getD_none] <;> first | exact hw | (show 0 ≤ a + b ∧ a + b ≤ 9223372036854775807; omega)
  · split
    · split <;> simp only [Option.getD_some, Option.getD_none] <;> first | exact hw | (show 0 ≤ a - b ∧ a - b ≤ 9223372036854775807; omega)
    · split
      · split <;> simp only [Option.getD_some, Option.getD_none] <;> first | exact hw | (rename_i h; exact ⟨Int.mul_nonneg ha.1 hb.1, h⟩)
      · split
        · split <;> simp only [Option.getD_some, Option.getD_none] <;> first | exact hw | (show 0 ≤ a / b ∧ a / b ≤ 9223372036854775807; have h1 := Int.ediv_nonneg ha.1 hb.1; have h2 := Int.ediv_le_self b ha.1; omega)
        · split
          · exact hN0
          · exact hw
theorem two_n {k : Int} {a b : T} (ha : InN a.n) (hb : InN b.n) : InN (twoT k a b).n := by
  have h0 : InN 0 := ⟨by omega, by omega⟩
  unfold twoT
  split
  · split
    · exact ha
    · split <;> first | exact hb | exact h0
  · split
    · split
      · exact ha
      · split <;> first | exact hb | exact h0
    · split
      · split
        · exact h0
        · exact sums_n ha hb h0
      · exact h0
theorem one_n {k : Int} {a : T} (ha : InN a.n) : InN (oneT k a).n := by
  have h0 : InN 0 := ⟨by omega, by omega⟩
  unfold oneT
  split
  · exact h0
  · split <;> first | exact ha | exact h0
theorem foldT_0 (k n : Int) (s : List UInt8) : foldT (.mk k n s []) = .mk k n s [] := by rw [foldT, foldL]
theorem foldT_1 (k n : Int) (s : List UInt8) (x : T) : foldT (.mk k n s [x]) = oneT k (foldT x) := by rw [foldT, foldL, foldL]
theorem foldT_2 (k n : Int) (s : List UInt8) (x y : T) : foldT (.mk k n s [x, y]) = twoT k (foldT x) (foldT y) := by rw [foldT, foldL, foldL, foldL]; rfl
/-- The three forms of a node that may be. -/
theorem forms {k n : Int} {s : List UInt8} {l : List T} (h : nodeN k n l.length) : (l = [] ∧ k ≤ 4) ∨ (∃ x, l = [x] ∧ (k = 5 ∨ k = 6) ∧ n = 0) ∨ (∃ x y, l = [x, y] ∧ 7 ≤ k ∧ n = 0) := by
  obtain ⟨h1, h2, h3, h4, h5, h6, h7⟩ := h
  by_cases a : k ≤ 4
  · exact .inl ⟨List.eq_nil_of_length_eq_zero (h3 a), a⟩
  · by_cases b : k = 5 ∨ k = 6
    · right; left
      match l, h4 b with
      | [x], _ => exact ⟨x, rfl, b, by omega⟩
    · right; right
      match l, h5 (by omega) with
      | [x, y], _ => exact ⟨x, y, rfl, by omega, by omega⟩
theorem fold_n : ∀ (m : Nat) (t : T) (d : Int), t.wt ≤ m → t.Ok → checkT t d = 0 → InN (foldT t).n := by
  intro m
  induction m with
  | zero => intro t d h; rw [T.wt_eq] at h; omega
  | succ m ihm =>
  intro t d hm ho hc
  obtain ⟨k, n, s, l⟩ := t
  obtain ⟨c1, c2, c3, c4⟩ := checkT_inv hc
  obtain ⟨o1, o2, o3, o4, o5⟩ := ho
  rw [T.wt] at hm
  have ih : ∀ x ∈ l, InN (foldT x).n := fun x hx => ihm x (d + 1) (by have := wtL_mem l x hx; omega) (OkL_mem o5 hx) (checkL_mem c4 hx)
  rcases forms (s := s) c2 with ⟨rfl, _⟩ | ⟨x, rfl, _, _⟩ | ⟨x, y, rfl, _, _⟩
  · rw [foldT_0]; exact ⟨c2.2.2.2.2.2.1, (wf_i64.1 o2).2⟩
  · rw [foldT_1]; exact one_n (ih x (by simp))
  · rw [foldT_2]; exact two_n (ih x (by simp)) (ih y (by simp))
/-- What is known is so in one way; and the type stays. -/
def Good (f : T) (b : Bool) : Prop := truthK f.kind = b ∧ (f.kind = 1 → f = numT f.n) ∧ (f.kind = 3 → f = yesT true) ∧ (f.kind = 4 → f = yesT false)
theorem good_yes (b : Bool) : Good (yesT b) true := by cases b <;> exact ⟨rfl, fun h => absurd h (by decide), fun h => by first | rfl | exact absurd h (by decide), fun h => by first | rfl | exact absurd h (by decide)⟩
theorem good_num (n : Int) : Good (numT n) false := ⟨rfl, fun _ => rfl, fun h => absurd h (show (1 : Int) ≠ 3 by decide), fun h => absurd h (show (1 : Int) ≠ 4 by decide)⟩
theorem good_mk {k n : Int} {s : List UInt8} {l : List T} (h : 4 < k) : Good (.mk k n s l) (truthK k) := ⟨rfl, fun e => absurd e (show k ≠ 1 by omega), fun e => absurd e (show k ≠ 3 by omega), fun e => absurd e (show k ≠ 4 by omega)⟩
theorem truthK_t {k : Int} (h : k = 3 ∨ k = 4 ∨ k = 6 ∨ k = 11 ∨ k = 12 ∨ k = 13 ∨ k = 14) : truthK k = true := dec_t h
theorem truthK_f {k : Int} (h : ¬(k = 3 ∨ k = 4 ∨ k = 6 ∨ k = 11 ∨ k = 12 ∨ k = 13 ∨ k = 14)) : truthK k = false := dec_f h
theorem plain_cases {f : T} {b : Bool} (h : Good f b) : (f = numT f.n ∧ b = false) ∨ (f = yesT true ∧ b = true) ∨ (f = yesT false ∧ b = true) ∨ plainK f.kind = false := by
  obtain ⟨h1, h2, h3, h4⟩ := h
  by_cases a : f.kind = 1
  · exact .inl ⟨h2 a, by rw [← h1, a]; rfl⟩
  · by_cases c : f.kind = 3
    · exact .inr (.inl ⟨h3 c, by rw [← h1, c]; rfl⟩)
    · by_cases e : f.kind = 4
      · exact .inr (.inr (.inl ⟨h4 e, by rw [← h1, e]; rfl⟩))
      · exact .inr (.inr (.inr (dec_f (by omega))))
theorem good_one {k : Int} {a : T} {b : Bool} (hk : (k = 5 ∧ b = false) ∨ (k = 6 ∧ b = true)) (h : Good a b) : Good (oneT k a) (truthK k) := by
  unfold oneT
  rcases hk with ⟨rfl, rfl⟩ | ⟨rfl, rfl⟩
  · rw [if_neg (by omega)]
    split
    · exact h
    · exact good_mk (by omega)
  · split
    · exact good_yes _
    · rw [if_neg (by omega)]; exact good_mk (by omega)
/-- What both sides must be. -/
def Both (k : Int) (b c : Bool) : Prop := (k = 11 → b = c) ∧ (k = 13 ∨ k = 14 → b = true ∧ c = true) ∧ (k ≠ 11 → k ≠ 13 → k ≠ 14 → b = false ∧ c = false)
theorem good_two {k : Int} {x y : T} {b c : Bool} (hk : 7 ≤ k ∧ k ≤ 14) (hb : Both k b c) (hx : Good x b) (hy : Good y c) : Good (twoT k x y) (truthK k) := by
  obtain ⟨b1, b2, b3⟩ := hb
  unfold twoT
  split
  · rename_i h; subst h
    obtain ⟨rfl, rfl⟩ := b2 (.inl rfl)
    split
    · exact hx
    · split
      · exact hy
      · exact good_mk (by omega)
  · split
    · rename_i h; subst h
      obtain ⟨rfl, rfl⟩ := b2 (.inr rfl)
      split
      · exact hx
      · split
        · exact hy
        · exact good_mk (by omega)
    · split
      · split
        · rename_i h; subst h; exact good_yes _
        · have hw : Good (T.mk k 0 [] [x, y]) (truthK k) := good_mk (by omega)
          unfold sumsT
          split
          · rename_i h; subst h; split <;> first | exact good_num _ | exact hw
          · split
            · rename_i h; subst h; split <;> first | exact good_num _ | exact hw
            · split
              · rename_i h; subst h; split <;> first | exact good_num _ | exact hw
              · split
                · rename_i h; subst h; split <;> first | exact good_num _ | exact hw
                · split
                  · rename_i h; subst h; exact good_yes _
                  · exact hw
      · exact good_mk (by omega)
theorem typed_1 {k n : Int} {s : List UInt8} {x : T} (hk : k = 5 ∨ k = 6) (h : typedT (.mk k n s [x]) = true) : typedT x = true ∧ ((k = 5 ∧ truthK x.kind = false) ∨ (k = 6 ∧ truthK x.kind = true)) := by
  simp only [typedT, typedL, Bool.and_eq_true, Bool.and_true] at h
  obtain ⟨h1, h2⟩ := h
  rw [if_neg (by omega)] at h2
  refine ⟨h1, ?_⟩
  rcases hk with rfl | rfl
  · left; exact ⟨rfl, by simpa using h2⟩
  · right; exact ⟨rfl, by simpa using h2⟩
theorem typed_2 {k n : Int} {s : List UInt8} {x y : T} (hk : 7 ≤ k ∧ k ≤ 14) (h : typedT (.mk k n s [x, y]) = true) : typedT x = true ∧ typedT y = true ∧ Both k (truthK x.kind) (truthK y.kind) := by
  simp only [typedT, typedL, Bool.and_eq_true, Bool.and_true] at h
  obtain ⟨h1, h2, h3, h4⟩ := h
  refine ⟨h1, h3, ?_⟩
  by_cases h11 : k = 11
  · rw [if_pos h11] at h4
    exact ⟨fun _ => ((by simpa using h4 : truthK y.kind = truthK x.kind).symm), fun e => by omega, fun e => absurd h11 e⟩
  · rw [if_neg h11] at h2 h4
    refine ⟨fun e => absurd e h11, fun e => ?_, fun _ e1 e2 => ?_⟩
    · rw [dec_t (show k = 6 ∨ k = 13 ∨ k = 14 by omega)] at h2 h4
      exact ⟨by simpa using h2, by simpa using h4⟩
    · rw [dec_f (show ¬(k = 6 ∨ k = 13 ∨ k = 14) by omega)] at h2 h4
      exact ⟨by simpa using h2, by simpa using h4⟩
theorem fold_good : ∀ (m : Nat) (t : T) (d : Int), t.wt ≤ m → checkT t d = 0 → typedT t = true → Good (foldT t) (truthK t.kind) := by
  intro m
  induction m with
  | zero => intro t d h; rw [T.wt_eq] at h; omega
  | succ m ihm =>
  intro t d hm hc ht
  obtain ⟨k, n, s, l⟩ := t
  obtain ⟨c1, c2, c3, c4⟩ := checkT_inv hc
  rw [T.wt] at hm
  have ih : ∀ x ∈ l, typedT x = true → Good (foldT x) (truthK x.kind) := fun x hx h => ihm x (d + 1) (by have := wtL_mem l x hx; omega) (checkL_mem c4 hx) h
  rcases forms (s := s) c2 with ⟨rfl, h4⟩ | ⟨x, rfl, h5, _⟩ | ⟨x, y, rfl, h7, _⟩
  · rw [foldT_0]
    obtain ⟨n1, n2, n3, n4, n5, n6, n7⟩ := c2
    show Good (.mk k n s []) (truthK k)
    have hs : k ≠ 2 → s = [] := fun h => by rw [textOk_n h] at c3; simpa using c3
    by_cases hv : k = 2
    · subst hv; exact ⟨rfl, fun e => absurd e (show (2 : Int) ≠ 1 by decide), fun e => absurd e (show (2 : Int) ≠ 3 by decide), fun e => absurd e (show (2 : Int) ≠ 4 by decide)⟩
    · obtain rfl := hs hv
      by_cases h1 : k = 1
      · subst h1; exact good_num n
      · obtain rfl : n = 0 := by omega
        rcases (by omega : k = 3 ∨ k = 4) with rfl | rfl
        · exact good_yes true
        · exact good_yes false
  · obtain ⟨t1, t2⟩ := typed_1 h5 ht
    rw [foldT_1]
    exact good_one t2 (ih x (by simp) t1)
  · obtain ⟨t1, t2, t3⟩ := typed_2 ⟨h7, c2.2.1⟩ ht
    rw [foldT_2]
    exact good_two ⟨h7, c2.2.1⟩ t3 (ih x (by simp) t1) (ih y (by simp) t2)
theorem both_v {k a b : Int} {y : T} (ha : InN a) (hb : InN b) (h : bothT k a b = some y) : bothV k a b = y := by
  have hd := tdiv_b ha hb
  unfold bothT at h
  unfold bothV
  by_cases h11 : k = 11
  · subst h11; rw [if_pos rfl] at h; injection h
  · rw [if_neg h11] at h
    unfold sumsT mostN at h
    by_cases h7 : k = 7
    · rw [if_pos h7] at h ⊢
      split at h
      · injection h with h; rw [wrap_i64 (by unfold InN at *; omega) (by omega)]; exact h
      · cases h
    · rw [if_neg h7] at h ⊢
      by_cases h8 : k = 8
      · rw [if_pos h8] at h ⊢
        split at h
        · injection h with h; rw [wrap_i64 (by unfold InN at *; omega) (by unfold InN at *; omega)]; exact h
        · cases h
      · rw [if_neg h8] at h ⊢
        by_cases h9 : k = 9
        · rw [if_pos h9] at h ⊢
          split at h
          · injection h with h; rw [wrap_i64 (by have := Int.mul_nonneg ha.1 hb.1; omega) (by omega)]; exact h
          · cases h
        · rw [if_neg h9] at h ⊢
          by_cases h10 : k = 10
          · rw [if_pos h10] at h ⊢
            split at h
            · injection h with h; rw [if_neg (by omega), wrap_i64 (by omega) (by unfold InN at *; omega), Int.tdiv_eq_ediv_of_nonneg ha.1]; exact h
            · cases h
          · rw [if_neg h10] at h ⊢
            by_cases h12 : k = 12
            · rw [if_pos h12] at h ⊢; injection h
            · rw [if_neg h12] at h; cases h
theorem two_nn {k m p : Int} (h1 : k ≠ 13) (h2 : k ≠ 14) : twoT k (numT m) (numT p) = (bothT k m p).getD (.mk k 0 [] [numT m, numT p]) := by
  unfold twoT bothT
  rw [if_neg h1, if_neg h2, if_pos ⟨rfl, rfl⟩]
  by_cases h : k = 11
  · rw [if_pos h, if_pos h]; show yesT ((1 : Int) == 1 && m == p) = yesT (m == p); simp
  · rw [if_neg h, if_neg h]; rfl
end Go.RxTree
