/- A reader over bytes: each of its steps, as plain functions of what is left and of what is wrong. -/
import Derived.Test.YtahnmikdpclbfaaRSpecT
set_option linter.unusedVariables false
set_option linter.unusedSimpArgs false
namespace Go.RxTree
open Go Go.Rx
/-- The next number, up to a greatest one. -/
def rdN (most : Nat) (b : List UInt8) : Nat × Nat × Int :=
  if (rdU b).2.2 ≠ 0 then (0, 0, (rdU b).2.2) else if most < (rdU b).1 then (0, (rdU b).2.1, 6) else rdU b
/-- The next byte. -/
def rdO : List UInt8 → Nat × Nat × Int
  | [] => (0, 0, 5)
  | c :: r => (c.toNat, 1, 0)
/-- The next tree, or none. -/
def rdM : List UInt8 → List T × Nat × Int
  | [] => ([], 0, 5)
  | c :: r => if c.toNat = 0 then ([], 1, 0) else if 1 < c.toNat then ([], 1, 3) else ([(rdX r).1], 1 + (rdX r).2.1, (rdX r).2.2)
/-- What model's reader keeps behind each step. -/
def mN (most : Nat) (b : List UInt8) : List UInt8 := if (rdU b).2.2 ≠ 0 then [] else b.drop (rdU b).2.1
def mO : List UInt8 → List UInt8
  | [] => []
  | _ :: r => r
def mM : List UInt8 → List UInt8
  | [] => []
  | c :: r => if c.toNat = 0 ∨ 1 < c.toNat then r else rest r (rdX r).2.1 (rdX r).2.2
end Go.RxTree
