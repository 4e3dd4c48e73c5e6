/- What the functions of conditions come to: plain definitions, and what they share. -/
import Derived.Test.YtaghcidejnhahaaRxTree
import Derived.Test.YtaghcidejnhahaaRxJc
open Go Go.Rx
namespace Go.RxTree
set_option linter.unusedVariables false
set_option linter.unusedSimpArgs false
def letB (b : UInt8) : Bool := decide ((b.toNat : Int) ≥ 97) && decide ((b.toNat : Int) ≤ 122)
def digB (b : UInt8) : Bool := decide ((b.toNat : Int) ≥ 48) && decide ((b.toNat : Int) ≤ 57)
/-- May bytes from some place on stand in a name? -/
def nameL : Nat → List UInt8 → Bool
  | _, [] => true
  | i, b :: r => (letB b || (i != 0 && digB b)) && nameL (i + 1) r
theorem nameL_drop {s : List UInt8} {i : Nat} {b : UInt8} (h : s[i]? = some b) : nameL i (s.drop i) = ((letB b || (i != 0 && digB b)) && nameL (i + 1) (s.drop (i + 1))) := by
  obtain ⟨h1, e1⟩ := List.getElem?_eq_some_iff.1 h
  rw [List.drop_eq_getElem_cons h1, nameL, e1]
/-- May a text be a name? -/
def nameOk (s : List UInt8) : Bool := decide (1 ≤ s.length) && (decide (s.length ≤ 32) && nameL 0 s)
theorem nameOk_cons (b : UInt8) (r : List UInt8) : nameOk (b :: r) = (decide ((b :: r).length ≤ 32) && (letB b && r.all (fun c => letB c || digB c))) := by
  have key : ∀ (l : List UInt8) (i : Nat), 0 < i → nameL i l = l.all (fun c => letB c || digB c) := fun l => by
    induction l with
    | nil => intro i _; rfl
    | cons c l ih =>
      intro i hi
      rw [nameL, ih _ (by omega), List.all_cons]
      rw [show (i != 0) = true by simp; omega, Bool.true_and]
  simp [nameOk, nameL, key r 1 (by omega)]
/-- What a node's numbers must be. -/
def nodeN (k n : Int) (m : Nat) : Prop := 1 ≤ k ∧ k ≤ 14 ∧ (k ≤ 4 → m = 0) ∧ (k = 5 ∨ k = 6 → m = 1) ∧ (7 ≤ k → m = 2) ∧ 0 ≤ n ∧ (n = 0 ∨ k = 1)
instance (k n : Int) (m : Nat) : Decidable (nodeN k n m) := by unfold nodeN; infer_instance
/-- What a node's text must be. -/
def textOk (k : Int) (s : List UInt8) : Bool := if k = 2 then nameOk s && (!(s == [121, 101, 115]) && !(s == [110, 111])) else s == []
/-- May a node be, beside what is below it? -/
def nodeOk (k n : Int) (s : List UInt8) (m : Nat) : Bool := decide (nodeN k n m) && textOk k s
theorem nodeOk_f {k n : Int} {s : List UInt8} {m : Nat} (h : ¬(1 ≤ k ∧ k ≤ 14 ∧ (k ≤ 4 → m = 0) ∧ (k = 5 ∨ k = 6 → m = 1) ∧ (7 ≤ k → m = 2) ∧ 0 ≤ n ∧ (n = 0 ∨ k = 1))) : nodeOk k n s m = false := by
  unfold nodeOk; rw [dec_f (p := nodeN k n m) h]; rfl
theorem nodeOk_t {k n : Int} {s : List UInt8} {m : Nat} (h : 1 ≤ k ∧ k ≤ 14 ∧ (k ≤ 4 → m = 0) ∧ (k = 5 ∨ k = 6 → m = 1) ∧ (7 ≤ k → m = 2) ∧ 0 ≤ n ∧ (n = 0 ∨ k = 1)) : nodeOk k n s m = textOk k s := by
  unfold nodeOk; rw [dec_t (p := nodeN k n m) h]; rfl
theorem textOk_n {k : Int} {s : List UInt8} (h : k ≠ 2) : textOk k s = (s == []) := by unfold textOk; rw [if_neg h]
theorem textOk_v {s : List UInt8} : textOk 2 s = (nameOk s && (!(s == [121, 101, 115]) && !(s == [110, 111]))) := rfl
theorem textOk_1 {k : Int} {s : List UInt8} (h : k ≠ 2) (hs : s ≠ []) : textOk k s = false := by rw [textOk_n h, beq_f hs]
theorem textOk_2 {k : Int} {s : List UInt8} (h : k ≠ 2) (hs : s = []) : textOk k s = true := by rw [textOk_n h, beq_t hs]
theorem textOk_3 {s : List UInt8} (h : nameOk s = false) : textOk 2 s = false := by rw [textOk_v, h]; rfl
theorem textOk_4 {s : List UInt8} (h : s = [121, 101, 115]) : textOk 2 s = false := by rw [textOk_v, beq_t h]; simp
theorem textOk_5 {s : List UInt8} (h : s = [110, 111]) : textOk 2 s = false := by rw [textOk_v, beq_t h]; simp
theorem textOk_6 {s : List UInt8} (h : nameOk s = true) (h1 : s ≠ [121, 101, 115]) (h2 : s ≠ [110, 111]) : textOk 2 s = true := by rw [textOk_v, h, beq_f h1, beq_f h2]; rfl
mutual
/-- May a tree be, so deep? -/
def checkT : T → Int → Int
  | .mk k n s l, d => if d > 16 then 6 else if nodeOk k n s l.length then checkL l (d + 1) else 1
def checkL : List T → Int → Int
  | [], _ => 0
  | t :: r, d => if checkT t d = 0 then checkL r d else checkT t d
end
theorem checkT_big {k n d : Int} {s : List UInt8} {l : List T} (h : d > 16) : checkT (.mk k n s l) d = 6 := by rw [checkT, if_pos h]
theorem checkT_bad {k n d : Int} {s : List UInt8} {l : List T} (h : ¬d > 16) (hn : nodeOk k n s l.length = false) : checkT (.mk k n s l) d = 1 := by rw [checkT, if_neg h, hn]; rfl
theorem checkT_go {k n d : Int} {s : List UInt8} {l : List T} (h : ¬d > 16) (hn : nodeOk k n s l.length = true) : checkT (.mk k n s l) d = checkL l (d + 1) := by rw [checkT, if_neg h, hn]; rfl
theorem checkL_drop {l : List T} {i : Nat} {x : T} {d : Int} (h : l[i]? = some x) : checkL (l.drop i) d = if checkT x d = 0 then checkL (l.drop (i + 1)) d else checkT x d := by
  obtain ⟨h1, e1⟩ := List.getElem?_eq_some_iff.1 h
  rw [List.drop_eq_getElem_cons h1, checkL, e1]
mutual
/-- All names are so short that they may be read. -/
def T.Sm : T → Prop
  | .mk _ _ s l => s.length ≤ 140737488351232 ∧ SmL l
def SmL : List T → Prop
  | [] => True
  | t :: r => t.Sm ∧ SmL r
end
theorem SmL_mem : ∀ {l : List T} {t : T}, SmL l → t ∈ l → t.Sm
  | a :: r, t, h, hm => by
    rcases List.mem_cons.1 hm with rfl | hm
    · exact h.1
    · exact SmL_mem h.2 hm
theorem T.sm_eq (t : T) : t.Sm ↔ t.name.length ≤ 140737488351232 ∧ SmL t.kids := by cases t; rfl
/-- What a kind's parts must come to, and what it does. -/
def shapeP (k : Int) : Int × Int :=
  if k = 1 ∨ k = 2 ∨ k = 5 ∨ k = 7 ∨ k = 8 ∨ k = 9 ∨ k = 10 then (0, 0) else if k = 12 then (0, 1) else if k = 11 then (-1, 1) else (1, 1)
end Go.RxTree
namespace Go.RxTree
/-- Does a kind come to a truth? -/
def truthK (k : Int) : Bool := decide (k = 3 ∨ k = 4 ∨ k = 6 ∨ k = 11 ∨ k = 12 ∨ k = 13 ∨ k = 14)
mutual
/-- What a tree comes to, and what is wrong. -/
def ofT : T → Int × Int
  | .mk k _ _ l => ofL l true (shapeP k).1 (shapeP k).2
def ofL : List T → Bool → Int → Int → Int × Int
  | [], _, _, out => (out, 0)
  | t :: r, first, want, out => if (ofT t).2 ≠ 0 then (0, (ofT t).2) else
      if (ofT t).1 ≠ (if first = true ∧ want < 0 then (ofT t).1 else want) then (0, 7) else ofL r false (if first = true ∧ want < 0 then (ofT t).1 else want) out
end
mutual
/-- Are a tree's parts such as they must be? -/
def typedT : T → Bool
  | .mk k _ _ l => typedL k (l.head?.map T.kind) l
def typedL (k : Int) (f : Option Int) : List T → Bool
  | [] => true
  | t :: r => typedT t && ((if k = 11 then truthK t.kind == truthK (f.getD 0) else truthK t.kind == decide (k = 6 ∨ k = 13 ∨ k = 14)) && typedL k f r)
end
theorem ofL_drop {l : List T} {i : Nat} {x : T} {fst : Bool} {want out : Int} (h : l[i]? = some x) : ofL (l.drop i) fst want out = if (ofT x).2 ≠ 0 then (0, (ofT x).2) else
      if (ofT x).1 ≠ (if fst = true ∧ want < 0 then (ofT x).1 else want) then (0, 7) else ofL (l.drop (i + 1)) false (if fst = true ∧ want < 0 then (ofT x).1 else want) out := by
  obtain ⟨h1, e1⟩ := List.getElem?_eq_some_iff.1 h
  rw [List.drop_eq_getElem_cons h1, ofL, e1]
section
variable {l : List T} {i : Nat} {x : T} {f : Bool} {w o : Int}
theorem ofL_e (h : l[i]? = some x) (h1 : (ofT x).2 ≠ 0) : ofL (l.drop i) f w o = (0, (ofT x).2) := by rw [ofL_drop h, if_pos h1]
theorem ofL_f (h : l[i]? = some x) (h1 : (ofT x).2 = 0) (h2 : f = true ∧ w < 0) : ofL (l.drop i) f w o = ofL (l.drop (i + 1)) false (ofT x).1 o := by rw [ofL_drop h, if_neg (by simp [h1]), if_pos h2, if_neg (by simp)]
theorem ofL_7 (h : l[i]? = some x) (h1 : (ofT x).2 = 0) (h2 : ¬(f = true ∧ w < 0)) (h3 : (ofT x).1 ≠ w) : ofL (l.drop i) f w o = (0, 7) := by rw [ofL_drop h, if_neg (by simp [h1]), if_neg h2, if_pos h3]
theorem ofL_n (h : l[i]? = some x) (h1 : (ofT x).2 = 0) (h2 : ¬(f = true ∧ w < 0)) (h3 : (ofT x).1 = w) : ofL (l.drop i) f w o = ofL (l.drop (i + 1)) false w o := by rw [ofL_drop h, if_neg (by simp [h1]), if_neg h2, if_neg (by simp [h3])]
theorem ofL_ok : ∀ (l : List T) (f : Bool) (w : Int), (ofL l f w o).2 = 0 → (ofL l f w o).1 = o
  | [], f, w, h => rfl
  | t :: r, f, w, h => by
    rw [ofL] at h ⊢
    by_cases h1 : (ofT t).2 ≠ 0
    · rw [if_pos h1] at h; exact absurd h h1
    · rw [if_neg h1] at h ⊢
      generalize (if f = true ∧ w < 0 then (ofT t).1 else w) = w' at h ⊢
      by_cases h2 : (ofT t).1 ≠ w'
      · rw [if_pos h2] at h; cases h
      · rw [if_neg h2] at h ⊢; exact ofL_ok r _ _ h
end
theorem typedL_drop {l : List T} {i : Nat} {x : T} {k : Int} {f : Option Int} (h : l[i]? = some x) : typedL k f (l.drop i) = (typedT x && ((if k = 11 then truthK x.kind == truthK (f.getD 0) else truthK x.kind == decide (k = 6 ∨ k = 13 ∨ k = 14)) && typedL k f (l.drop (i + 1)))) := by
  obtain ⟨h1, e1⟩ := List.getElem?_eq_some_iff.1 h
  rw [List.drop_eq_getElem_cons h1, typedL, e1]
end Go.RxTree
namespace Go.RxTree
section
variable {l : List T} {i : Nat} {x : T} {k : Int} {f : Option Int}
theorem typedL_1 (h : l[i]? = some x) (h1 : typedT x = false) : typedL k f (l.drop i) = false := by rw [typedL_drop h, h1]; rfl
theorem typedL_2 (h : l[i]? = some x) (hk : k = 11) (h2 : (truthK x.kind == truthK (f.getD 0)) = false) : typedL k f (l.drop i) = false := by rw [typedL_drop h, if_pos hk, h2]; simp
theorem typedL_3 (h : l[i]? = some x) (h1 : typedT x = true) (hk : k = 11) (h2 : (truthK x.kind == truthK (f.getD 0)) = true) : typedL k f (l.drop i) = typedL k f (l.drop (i + 1)) := by rw [typedL_drop h, h1, if_pos hk, h2]; rfl
theorem typedL_4 (h : l[i]? = some x) (hk : k ≠ 11) (h2 : (truthK x.kind == decide (k = 6 ∨ k = 13 ∨ k = 14)) = false) : typedL k f (l.drop i) = false := by rw [typedL_drop h, if_neg hk, h2]; simp
theorem typedL_5 (h : l[i]? = some x) (h1 : typedT x = true) (hk : k ≠ 11) (h2 : (truthK x.kind == decide (k = 6 ∨ k = 13 ∨ k = 14)) = true) : typedL k f (l.drop i) = typedL k f (l.drop (i + 1)) := by rw [typedL_drop h, h1, if_neg hk, h2]; rfl
end
end Go.RxTree
