/- What the parser comes to. -/
import Derived.Test.YtbeppoonnbfdeaaRSpecE
set_option linter.unusedVariables false
set_option linter.unusedSimpArgs false
namespace Go.RxTree
open Go Go.Rx
inductive Rs where
  | tree (x : T) (j : Nat)
  | bad (er at' : Int)
/-- A word as a tree. -/
def wordT (w : W) : T := if w.k = 1 then T.mk 1 w.n [] [] else if w.t = [121, 101, 115] then T.mk 3 0 [] [] else if w.t = [110, 111] then T.mk 4 0 [] [] else T.mk 2 0 w.t []
/-- Does what is read so loosely end here? -/
def endsK (l : List W) (lo : Int) (b : Bool) (j : Nat) : Prop := twoK (signL l j) = 0 ∨ levelK (twoK (signL l j)) ≠ lo ∨ (lo = 3 ∧ b = true)
instance (l : List W) (lo : Int) (b : Bool) (j : Nat) : Decidable (endsK l lo b j) := by unfold endsK; infer_instance
def loopS (f : Nat → Rs) (l : List W) (lo : Int) : Nat → Nat → T → Bool → Rs
  | 0, j, x, _ => .tree x j
  | m + 1, j, x, b => if endsK l lo b j then .tree x j else match f (j + 1) with
    | .tree y j' => loopS f l lo m j' (.mk (twoK (signL l j)) 0 [] [x, y]) true
    | .bad e a => .bad e a
mutual
def oneS (l : List W) (L : Int) : Nat → Nat → Int → Rs
  | 0, _, _ => .bad 0 0
  | M + 1, i, d =>
    if d > 16 then .bad 6 (atL l i L)
    else if signL l i = [45] ∨ signL l i = [33] then match oneS l L M (i + 1) (d + 1) with
      | .tree x j => .tree (.mk (if signL l i = [45] then 5 else 6) 0 [] [x]) j
      | .bad e a => .bad e a
    else if signL l i = [40] then match exprS l L M (i + 1) 1 (d + 1) with
      | .tree x j => if signL l j = [41] then .tree x (j + 1) else .bad 3 (atL l j L)
      | .bad e a => .bad e a
    else match l[i]? with
      | none => .bad 3 (atL l i L)
      | some w => if signL l i ≠ [] then .bad 3 (atL l i L) else .tree (wordT w) (i + 1)
def exprS (l : List W) (L : Int) : Nat → Nat → Int → Int → Rs
  | 0, _, _, _ => .bad 0 0
  | M + 1, i, lo, d => if lo > 5 then oneS l L M i d else match exprS l L M i (lo + 1) d with
    | .tree x j => loopS (fun q => exprS l L M q (lo + 1) (d + 1)) l lo l.length j x false
    | .bad e a => .bad e a
end
end Go.RxTree
