/-
  NARROWER THAN 'FOR EVERY INPUT', by the rows' own cells (each row's printed sentence says how): FlowShapes: loops · FlowAsks: loops · FlowNests: loops · FlowGame: loops · FlowSerial: loops.
  DERIVED. THE GIVEN ROWS OF THIS SEAT. 5 by the template 'for every input the law returns true; each argument reads behind the call as it read before'; 0 by the template 'total and deterministic' (their statements: YtaghcidejnhahaaTotals.lean).
  GIVEN WITH THE SEED: the statements are not yours to turn. If you find one false, say at which input.
  Laid BY PROGRAM, IN A SANDBOX (cutbox-rows.mjs): the forced cells as the released guide's own fill.sh prints them over the translation b9b8b55a47b5cf4c… (all of the seat's roots in one cut). By AI agents, Wed Nov 11 2026. No macro, syntax, notation, axiom, sorry.
-/
import Derived.Test.YtaghcidejnhahaaChecked
import GoSem.Claim
import GoSem.ClaimJoined
import GoSem.ClaimMapViews
import Derived.JoinedTies
import Derived.KernelRfl
namespace Go.Proofs.Ytaghcidejnhahaa
/- THE CELL 'sum', in the pinned program and in every row, IS THE sha256 OF THE DUMP (.gsa) THAT YtaghcidejnhahaaProg.lean LOADS. Nothing in Lean hashes anything: it is a label: what it is worth is what the hold of that sum in a sandbox is worth. -/
noncomputable def Try.pinned : Pinned := { name := "ytaghcidejnhahaa", sum := "b9b8b55a47b5cf4c83f016d16be65ad04cc2253eb678471f96efa6159a0d48bc", checked := Try.checked }
namespace Rows
def none {H : Type} : Left H := { results := [], args := [] }

/-- 'funicularlaw12.FlowShapes': WHATEVER THE INPUT: true; the input reads as it did. -/
def flowShapesSpec : ChangeSpec := { name := "flowShapes", fn := fun _ => fun
  | [d] => { results := [.lit (.bool true)], args := [d] }
  | _ => none }
def flowShapesRow : OpenClaim := { program := "ytaghcidejnhahaa", sum := "b9b8b55a47b5cf4c83f016d16be65ad04cc2253eb678471f96efa6159a0d48bc", func := "funicular/funicularlaw12.FlowShapes", spec := "flowShapes", unfollowed := true, recurses := true, loops := true, apart := false }
def FlowShapesSaid : Prop := flowShapesRow.holds Try.pinned (OpenSpec.ofChange flowShapesSpec)

/-- ITS FALSE NEIGHBOUR: 'it returns false'. Refute it at one input. -/
def flowShapesWrong : ChangeSpec := { name := "flowShapes", fn := fun _ => fun
  | [d] => { results := [.lit (.bool false)], args := [d] }
  | _ => none }
def FlowShapesWrongFalsely : Prop := flowShapesRow.holds Try.pinned (OpenSpec.ofChange flowShapesWrong)

/-- 'funicularlaw12.FlowAsks': WHATEVER THE INPUT: true; the input reads as it did. -/
def flowAsksSpec : ChangeSpec := { name := "flowAsks", fn := fun _ => fun
  | [d1, d2] => { results := [.lit (.bool true)], args := [d1, d2] }
  | _ => none }
def flowAsksRow : OpenClaim := { program := "ytaghcidejnhahaa", sum := "b9b8b55a47b5cf4c83f016d16be65ad04cc2253eb678471f96efa6159a0d48bc", func := "funicular/funicularlaw12.FlowAsks", spec := "flowAsks", unfollowed := true, recurses := true, loops := true, apart := false }
def FlowAsksSaid : Prop := flowAsksRow.holds Try.pinned (OpenSpec.ofChange flowAsksSpec)

/-- ITS FALSE NEIGHBOUR: 'it returns false'. Refute it at one input. -/
def flowAsksWrong : ChangeSpec := { name := "flowAsks", fn := fun _ => fun
  | [d1, d2] => { results := [.lit (.bool false)], args := [d1, d2] }
  | _ => none }
def FlowAsksWrongFalsely : Prop := flowAsksRow.holds Try.pinned (OpenSpec.ofChange flowAsksWrong)

/-- 'funicularlaw12.FlowNests': WHATEVER THE INPUT: true; the input reads as it did. -/
def flowNestsSpec : ChangeSpec := { name := "flowNests", fn := fun _ => fun
  | [d] => { results := [.lit (.bool true)], args := [d] }
  | _ => none }
def flowNestsRow : OpenClaim := { program := "ytaghcidejnhahaa", sum := "b9b8b55a47b5cf4c83f016d16be65ad04cc2253eb678471f96efa6159a0d48bc", func := "funicular/funicularlaw12.FlowNests", spec := "flowNests", unfollowed := true, recurses := true, loops := true, apart := false }
def FlowNestsSaid : Prop := flowNestsRow.holds Try.pinned (OpenSpec.ofChange flowNestsSpec)

/-- ITS FALSE NEIGHBOUR: 'it returns false'. Refute it at one input. -/
def flowNestsWrong : ChangeSpec := { name := "flowNests", fn := fun _ => fun
  | [d] => { results := [.lit (.bool false)], args := [d] }
  | _ => none }
def FlowNestsWrongFalsely : Prop := flowNestsRow.holds Try.pinned (OpenSpec.ofChange flowNestsWrong)

/-- 'funicularlaw12.FlowGame': WHATEVER THE INPUT: true; the input reads as it did. -/
def flowGameSpec : ChangeSpec := { name := "flowGame", fn := fun _ => fun
  | [d1, d2, d3] => { results := [.lit (.bool true)], args := [d1, d2, d3] }
  | _ => none }
def flowGameRow : OpenClaim := { program := "ytaghcidejnhahaa", sum := "b9b8b55a47b5cf4c83f016d16be65ad04cc2253eb678471f96efa6159a0d48bc", func := "funicular/funicularlaw12.FlowGame", spec := "flowGame", unfollowed := true, recurses := true, loops := true, apart := false }
def FlowGameSaid : Prop := flowGameRow.holds Try.pinned (OpenSpec.ofChange flowGameSpec)

/-- ITS FALSE NEIGHBOUR: 'it returns false'. Refute it at one input. -/
def flowGameWrong : ChangeSpec := { name := "flowGame", fn := fun _ => fun
  | [d1, d2, d3] => { results := [.lit (.bool false)], args := [d1, d2, d3] }
  | _ => none }
def FlowGameWrongFalsely : Prop := flowGameRow.holds Try.pinned (OpenSpec.ofChange flowGameWrong)

/-- 'funicularlaw12.FlowSerial': WHATEVER THE INPUT: true; the input reads as it did. -/
def flowSerialSpec : ChangeSpec := { name := "flowSerial", fn := fun _ => fun
  | [d] => { results := [.lit (.bool true)], args := [d] }
  | _ => none }
def flowSerialRow : OpenClaim := { program := "ytaghcidejnhahaa", sum := "b9b8b55a47b5cf4c83f016d16be65ad04cc2253eb678471f96efa6159a0d48bc", func := "funicular/funicularlaw12.FlowSerial", spec := "flowSerial", unfollowed := true, recurses := true, loops := true, apart := false }
def FlowSerialSaid : Prop := flowSerialRow.holds Try.pinned (OpenSpec.ofChange flowSerialSpec)

/-- ITS FALSE NEIGHBOUR: 'it returns false'. Refute it at one input. -/
def flowSerialWrong : ChangeSpec := { name := "flowSerial", fn := fun _ => fun
  | [d] => { results := [.lit (.bool false)], args := [d] }
  | _ => none }
def FlowSerialWrongFalsely : Prop := flowSerialRow.holds Try.pinned (OpenSpec.ofChange flowSerialWrong)

/- THE SECOND FORM. 'bulk': how many values and letters a reading holds, each counted each time it is reached (what is shared counts as often as it is met; a slice's spare places count too). A statement '..UptoSaid' is the law's where the arguments, and the package variables that the reading takes, are together of bulk at most 1048576: NARROWER than '..Said'. Prove '..Said' where nothing that the law and all that it calls make is longer than what came in: it says more and counts as full. Else prove '..UptoSaid'. A law counts once. -/
mutual
def uptoBulk {H : Type} : DataW H → Nat
  | .lit (.string bytes) => bytes.length + 1
  | .lit _ => 1
  | .nil => 1
  | .ptr d => uptoBulk d + 1
  | .slice elems spare => uptoBulkAll elems + uptoBulkAll spare + 1
  | .agg parts => uptoBulkAll parts + 1
  | .iface _ d => uptoBulk d + 1
  | .map entries => uptoBulkEntries entries + 1
  | .held _ => 1
def uptoBulkAll {H : Type} : List (DataW H) → Nat
  | [] => 0
  | d :: r => uptoBulk d + uptoBulkAll r
def uptoBulkEntries {H : Type} : List (Lit × DataW H) → Nat
  | [] => 0
  | x :: r => uptoBulkEntry x + uptoBulkEntries r
def uptoBulkEntry {H : Type} : Lit × DataW H → Nat
  | (.string bytes, d) => bytes.length + uptoBulk d + 1
  | (_, d) => uptoBulk d + 1
 end
def uptoSmall : (H : Type) → List (DataW H) → Bool := fun _ ds => decide (uptoBulkAll ds ≤ 1048576)
def OpenSpec.upto (s : _root_.Go.ChangeSpec) : _root_.Go.OpenSpec := { _root_.Go.OpenSpec.ofChange s with cond := some uptoSmall }

/-- 'funicularlaw12.FlowShapes', WHERE WHAT IT READS IS OF BULK AT MOST 1048576: true; the input reads as it did. -/
def flowShapesUptoRow : OpenClaim := { program := "ytaghcidejnhahaa", sum := "b9b8b55a47b5cf4c83f016d16be65ad04cc2253eb678471f96efa6159a0d48bc", func := "funicular/funicularlaw12.FlowShapes", spec := "flowShapes", unfollowed := true, recurses := true, loops := true, apart := false, narrowed := true }
def FlowShapesUptoSaid : Prop := flowShapesUptoRow.holds Try.pinned (OpenSpec.upto flowShapesSpec)

/-- 'funicularlaw12.FlowAsks', WHERE WHAT IT READS IS OF BULK AT MOST 1048576: true; the input reads as it did. -/
def flowAsksUptoRow : OpenClaim := { program := "ytaghcidejnhahaa", sum := "b9b8b55a47b5cf4c83f016d16be65ad04cc2253eb678471f96efa6159a0d48bc", func := "funicular/funicularlaw12.FlowAsks", spec := "flowAsks", unfollowed := true, recurses := true, loops := true, apart := false, narrowed := true }
def FlowAsksUptoSaid : Prop := flowAsksUptoRow.holds Try.pinned (OpenSpec.upto flowAsksSpec)

/-- 'funicularlaw12.FlowNests', WHERE WHAT IT READS IS OF BULK AT MOST 1048576: true; the input reads as it did. -/
def flowNestsUptoRow : OpenClaim := { program := "ytaghcidejnhahaa", sum := "b9b8b55a47b5cf4c83f016d16be65ad04cc2253eb678471f96efa6159a0d48bc", func := "funicular/funicularlaw12.FlowNests", spec := "flowNests", unfollowed := true, recurses := true, loops := true, apart := false, narrowed := true }
def FlowNestsUptoSaid : Prop := flowNestsUptoRow.holds Try.pinned (OpenSpec.upto flowNestsSpec)

/-- 'funicularlaw12.FlowGame', WHERE WHAT IT READS IS OF BULK AT MOST 1048576: true; the input reads as it did. -/
def flowGameUptoRow : OpenClaim := { program := "ytaghcidejnhahaa", sum := "b9b8b55a47b5cf4c83f016d16be65ad04cc2253eb678471f96efa6159a0d48bc", func := "funicular/funicularlaw12.FlowGame", spec := "flowGame", unfollowed := true, recurses := true, loops := true, apart := false, narrowed := true }
def FlowGameUptoSaid : Prop := flowGameUptoRow.holds Try.pinned (OpenSpec.upto flowGameSpec)

/-- 'funicularlaw12.FlowSerial', WHERE WHAT IT READS IS OF BULK AT MOST 1048576: true; the input reads as it did. -/
def flowSerialUptoRow : OpenClaim := { program := "ytaghcidejnhahaa", sum := "b9b8b55a47b5cf4c83f016d16be65ad04cc2253eb678471f96efa6159a0d48bc", func := "funicular/funicularlaw12.FlowSerial", spec := "flowSerial", unfollowed := true, recurses := true, loops := true, apart := false, narrowed := true }
def FlowSerialUptoSaid : Prop := flowSerialUptoRow.holds Try.pinned (OpenSpec.upto flowSerialSpec)

end Rows
end Go.Proofs.Ytaghcidejnhahaa
