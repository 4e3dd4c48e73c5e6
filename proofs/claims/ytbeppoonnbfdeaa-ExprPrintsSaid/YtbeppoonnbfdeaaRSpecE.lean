/- Words and what they are to the parser. -/
import Derived.Test.YtbeppoonnbfdeaaRSpecW
set_option linter.unusedVariables false
set_option linter.unusedSimpArgs false
namespace Go.RxTree
open Go Go.Rx
structure W where
  k : Int
  t : List UInt8
  n : Int
  at' : Int
def W.cells (w : W) : List D := [.int .i64 w.k, .str w.t, .int .i64 w.n, .int .i64 w.at']
/-- A word of a text so long. -/
def W.Good (L : Nat) (w : W) : Prop := w.t.length ≤ 4096 ∧ 0 ≤ w.n ∧ w.n ≤ 9223372036854775807 ∧ 0 ≤ w.at' ∧ w.at' ≤ L
theorem word_get {l : List W} {i : Nat} {w : W} (h : l[i]? = some w) : (l.map W.cells)[i]? = some [.int .i64 w.k, .str w.t, .int .i64 w.n, .int .i64 w.at'] := by rw [List.getElem?_map, h]; rfl
def signB (c : UInt8) : Bool := c.toNat == 43 || c.toNat == 45 || c.toNat == 42 || c.toNat == 47 || c.toNat == 61 || c.toNat == 60 || c.toNat == 40 || c.toNat == 41 || c.toNat == 38 || c.toNat == 124 || c.toNat == 33
def kindB (c : UInt8) : Int := if c.toNat = 32 then 0 else if 48 ≤ c.toNat ∧ c.toNat ≤ 57 then 1 else if 97 ≤ c.toNat ∧ c.toNat ≤ 122 then 2 else if signB c = true then 3 else -1
/-- The next sign; none: nothing. -/
def signL (l : List W) (i : Nat) : List UInt8 := match l[i]? with
  | some w => if w.k = 3 then w.t else []
  | none => []
def twoK (s : List UInt8) : Int := if s = [124] then 14 else if s = [38] then 13 else if s = [61] then 11 else if s = [60] then 12 else if s = [43] then 7 else if s = [45] then 8 else if s = [42] then 9 else if s = [47] then 10 else 0
def levelK (k : Int) : Int := if k = 14 then 1 else if k = 13 then 2 else if k = 11 ∨ k = 12 then 3 else if k = 7 ∨ k = 8 then 4 else if k = 9 ∨ k = 10 then 5 else 6
def atL (l : List W) (i : Nat) (e : Int) : Int := match l[i]? with
  | some w => w.at'
  | none => e
end Go.RxTree
