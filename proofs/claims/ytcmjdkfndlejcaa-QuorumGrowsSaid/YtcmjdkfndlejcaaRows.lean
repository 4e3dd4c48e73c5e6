/-
  No cell of these rows narrows 'for every input' (looked for: loops, veiled, ifaces, maps, wideKeys, modest, calm, conditions, laid).
  DERIVED. THE GIVEN ROWS OF THIS SEAT. 5 by the template 'for every input the law returns true; each argument reads behind the call as it read before'; 0 by the template 'total and deterministic' (their statements: YtcmjdkfndlejcaaTotals.lean).
  GIVEN WITH THE SEED: the statements are not yours to turn. If you find one false, say at which input.
  Laid BY PROGRAM, IN A SANDBOX (cutbox-rows.mjs): the forced cells as the released guide's own fill.sh prints them over the translation 5073c8e80ce0edfb… (all of the seat's roots in one cut). By AI agents, Wed Nov 11 2026. No macro, syntax, notation, axiom, sorry.
-/
import Derived.Test.YtcmjdkfndlejcaaChecked
import GoSem.Claim
import GoSem.ClaimJoined
import GoSem.ClaimMapViews
import Derived.JoinedTies
import Derived.KernelRfl
namespace Go.Proofs.Ytcmjdkfndlejcaa
/- THE CELL 'sum', in the pinned program and in every row, IS THE sha256 OF THE DUMP (.gsa) THAT YtcmjdkfndlejcaaProg.lean LOADS. Nothing in Lean hashes anything: it is a label: what it is worth is what the hold of that sum in a sandbox is worth. -/
noncomputable def Try.pinned : Pinned := { name := "ytcmjdkfndlejcaa", sum := "5073c8e80ce0edfb5aee5d20cc43379a554ba52ead74e6cab7ac7ce96c01789b", checked := Try.checked }
namespace Rows
def none {H : Type} : Left H := { results := [], args := [] }

/-- 'funicularlaw14.QuorumCounts': WHATEVER THE INPUT: true; the input reads as it did. -/
def quorumCountsSpec : ChangeSpec := { name := "quorumCounts", fn := fun _ => fun
  | [d1, d2, d3, d4] => { results := [.lit (.bool true)], args := [d1, d2, d3, d4] }
  | _ => none }
def quorumCountsRow : OpenClaim := { program := "ytcmjdkfndlejcaa", sum := "5073c8e80ce0edfb5aee5d20cc43379a554ba52ead74e6cab7ac7ce96c01789b", func := "funicular/funicularlaw14.QuorumCounts", spec := "quorumCounts", recurses := true, apart := false }
def QuorumCountsSaid : Prop := quorumCountsRow.holds Try.pinned (OpenSpec.ofChange quorumCountsSpec)

/-- ITS FALSE NEIGHBOUR: 'it returns false'. Refute it at one input. -/
def quorumCountsWrong : ChangeSpec := { name := "quorumCounts", fn := fun _ => fun
  | [d1, d2, d3, d4] => { results := [.lit (.bool false)], args := [d1, d2, d3, d4] }
  | _ => none }
def QuorumCountsWrongFalsely : Prop := quorumCountsRow.holds Try.pinned (OpenSpec.ofChange quorumCountsWrong)

/-- 'funicularlaw14.QuorumMeets': WHATEVER THE INPUT: true; the input reads as it did. -/
def quorumMeetsSpec : ChangeSpec := { name := "quorumMeets", fn := fun _ => fun
  | [d1, d2] => { results := [.lit (.bool true)], args := [d1, d2] }
  | _ => none }
def quorumMeetsRow : OpenClaim := { program := "ytcmjdkfndlejcaa", sum := "5073c8e80ce0edfb5aee5d20cc43379a554ba52ead74e6cab7ac7ce96c01789b", func := "funicular/funicularlaw14.QuorumMeets", spec := "quorumMeets", recurses := true, apart := false }
def QuorumMeetsSaid : Prop := quorumMeetsRow.holds Try.pinned (OpenSpec.ofChange quorumMeetsSpec)

/-- ITS FALSE NEIGHBOUR: 'it returns false'. Refute it at one input. -/
def quorumMeetsWrong : ChangeSpec := { name := "quorumMeets", fn := fun _ => fun
  | [d1, d2] => { results := [.lit (.bool false)], args := [d1, d2] }
  | _ => none }
def QuorumMeetsWrongFalsely : Prop := quorumMeetsRow.holds Try.pinned (OpenSpec.ofChange quorumMeetsWrong)

/-- 'funicularlaw14.QuorumReaches': WHATEVER THE INPUT: true; the input reads as it did. -/
def quorumReachesSpec : ChangeSpec := { name := "quorumReaches", fn := fun _ => fun
  | [d] => { results := [.lit (.bool true)], args := [d] }
  | _ => none }
def quorumReachesRow : OpenClaim := { program := "ytcmjdkfndlejcaa", sum := "5073c8e80ce0edfb5aee5d20cc43379a554ba52ead74e6cab7ac7ce96c01789b", func := "funicular/funicularlaw14.QuorumReaches", spec := "quorumReaches", recurses := true, apart := false }
def QuorumReachesSaid : Prop := quorumReachesRow.holds Try.pinned (OpenSpec.ofChange quorumReachesSpec)

/-- ITS FALSE NEIGHBOUR: 'it returns false'. Refute it at one input. -/
def quorumReachesWrong : ChangeSpec := { name := "quorumReaches", fn := fun _ => fun
  | [d] => { results := [.lit (.bool false)], args := [d] }
  | _ => none }
def QuorumReachesWrongFalsely : Prop := quorumReachesRow.holds Try.pinned (OpenSpec.ofChange quorumReachesWrong)

/-- 'funicularlaw14.QuorumGrows': WHATEVER THE INPUT: true; the input reads as it did. -/
def quorumGrowsSpec : ChangeSpec := { name := "quorumGrows", fn := fun _ => fun
  | [d1, d2, d3, d4] => { results := [.lit (.bool true)], args := [d1, d2, d3, d4] }
  | _ => none }
def quorumGrowsRow : OpenClaim := { program := "ytcmjdkfndlejcaa", sum := "5073c8e80ce0edfb5aee5d20cc43379a554ba52ead74e6cab7ac7ce96c01789b", func := "funicular/funicularlaw14.QuorumGrows", spec := "quorumGrows", recurses := true, apart := false }
def QuorumGrowsSaid : Prop := quorumGrowsRow.holds Try.pinned (OpenSpec.ofChange quorumGrowsSpec)

/-- ITS FALSE NEIGHBOUR: 'it returns false'. Refute it at one input. -/
def quorumGrowsWrong : ChangeSpec := { name := "quorumGrows", fn := fun _ => fun
  | [d1, d2, d3, d4] => { results := [.lit (.bool false)], args := [d1, d2, d3, d4] }
  | _ => none }
def QuorumGrowsWrongFalsely : Prop := quorumGrowsRow.holds Try.pinned (OpenSpec.ofChange quorumGrowsWrong)

/-- 'funicularlaw14.QuorumLeast': WHATEVER THE INPUT: true; the input reads as it did. -/
def quorumLeastSpec : ChangeSpec := { name := "quorumLeast", fn := fun _ => fun
  | [d] => { results := [.lit (.bool true)], args := [d] }
  | _ => none }
def quorumLeastRow : OpenClaim := { program := "ytcmjdkfndlejcaa", sum := "5073c8e80ce0edfb5aee5d20cc43379a554ba52ead74e6cab7ac7ce96c01789b", func := "funicular/funicularlaw14.QuorumLeast", spec := "quorumLeast", recurses := true, apart := false }
def QuorumLeastSaid : Prop := quorumLeastRow.holds Try.pinned (OpenSpec.ofChange quorumLeastSpec)

/-- ITS FALSE NEIGHBOUR: 'it returns false'. Refute it at one input. -/
def quorumLeastWrong : ChangeSpec := { name := "quorumLeast", fn := fun _ => fun
  | [d] => { results := [.lit (.bool false)], args := [d] }
  | _ => none }
def QuorumLeastWrongFalsely : Prop := quorumLeastRow.holds Try.pinned (OpenSpec.ofChange quorumLeastWrong)

/- THE SECOND FORM. 'bulk': how many values and letters a reading holds, each counted each time it is reached (what is shared counts as often as it is met; a slice's spare places count too). A statement '..UptoSaid' is the law's where the arguments, and the package variables that the reading takes, are together of bulk at most 1048576: NARROWER than '..Said'. Prove '..Said' where nothing that the law and all that it calls make is longer than what came in: it says more and counts as full. Else prove '..UptoSaid'. A law counts once. -/
mutual
def uptoBulk {H : Type} : DataW H → Nat
  | .lit (.string bytes) => bytes.length + 1
  | .lit _ => 1
  | .nil => 1
  | .ptr d => uptoBulk d + 1
  | .slice elems spare => uptoBulkAll elems + uptoBulkAll spare + 1
  | .agg parts => uptoBulkAll parts + 1
  | .iface _ d => uptoBulk d + 1
  | .map entries => uptoBulkEntries entries + 1
  | .held _ => 1
def uptoBulkAll {H : Type} : List (DataW H) → Nat
  | [] => 0
  | d :: r => uptoBulk d + uptoBulkAll r
def uptoBulkEntries {H : Type} : List (Lit × DataW H) → Nat
  | [] => 0
  | x :: r => uptoBulkEntry x + uptoBulkEntries r
def uptoBulkEntry {H : Type} : Lit × DataW H → Nat
  | (.string bytes, d) => bytes.length + uptoBulk d + 1
  | (_, d) => uptoBulk d + 1
 end
def uptoSmall : (H : Type) → List (DataW H) → Bool := fun _ ds => decide (uptoBulkAll ds ≤ 1048576)
def OpenSpec.upto (s : _root_.Go.ChangeSpec) : _root_.Go.OpenSpec := { _root_.Go.OpenSpec.ofChange s with cond := some uptoSmall }

/-- 'funicularlaw14.QuorumCounts', WHERE WHAT IT READS IS OF BULK AT MOST 1048576: true; the input reads as it did. -/
def quorumCountsUptoRow : OpenClaim := { program := "ytcmjdkfndlejcaa", sum := "5073c8e80ce0edfb5aee5d20cc43379a554ba52ead74e6cab7ac7ce96c01789b", func := "funicular/funicularlaw14.QuorumCounts", spec := "quorumCounts", recurses := true, apart := false, narrowed := true }
def QuorumCountsUptoSaid : Prop := quorumCountsUptoRow.holds Try.pinned (OpenSpec.upto quorumCountsSpec)

/-- 'funicularlaw14.QuorumMeets', WHERE WHAT IT READS IS OF BULK AT MOST 1048576: true; the input reads as it did. -/
def quorumMeetsUptoRow : OpenClaim := { program := "ytcmjdkfndlejcaa", sum := "5073c8e80ce0edfb5aee5d20cc43379a554ba52ead74e6cab7ac7ce96c01789b", func := "funicular/funicularlaw14.QuorumMeets", spec := "quorumMeets", recurses := true, apart := false, narrowed := true }
def QuorumMeetsUptoSaid : Prop := quorumMeetsUptoRow.holds Try.pinned (OpenSpec.upto quorumMeetsSpec)

/-- 'funicularlaw14.QuorumReaches', WHERE WHAT IT READS IS OF BULK AT MOST 1048576: true; the input reads as it did. -/
def quorumReachesUptoRow : OpenClaim := { program := "ytcmjdkfndlejcaa", sum := "5073c8e80ce0edfb5aee5d20cc43379a554ba52ead74e6cab7ac7ce96c01789b", func := "funicular/funicularlaw14.QuorumReaches", spec := "quorumReaches", recurses := true, apart := false, narrowed := true }
def QuorumReachesUptoSaid : Prop := quorumReachesUptoRow.holds Try.pinned (OpenSpec.upto quorumReachesSpec)

/-- 'funicularlaw14.QuorumGrows', WHERE WHAT IT READS IS OF BULK AT MOST 1048576: true; the input reads as it did. -/
def quorumGrowsUptoRow : OpenClaim := { program := "ytcmjdkfndlejcaa", sum := "5073c8e80ce0edfb5aee5d20cc43379a554ba52ead74e6cab7ac7ce96c01789b", func := "funicular/funicularlaw14.QuorumGrows", spec := "quorumGrows", recurses := true, apart := false, narrowed := true }
def QuorumGrowsUptoSaid : Prop := quorumGrowsUptoRow.holds Try.pinned (OpenSpec.upto quorumGrowsSpec)

/-- 'funicularlaw14.QuorumLeast', WHERE WHAT IT READS IS OF BULK AT MOST 1048576: true; the input reads as it did. -/
def quorumLeastUptoRow : OpenClaim := { program := "ytcmjdkfndlejcaa", sum := "5073c8e80ce0edfb5aee5d20cc43379a554ba52ead74e6cab7ac7ce96c01789b", func := "funicular/funicularlaw14.QuorumLeast", spec := "quorumLeast", recurses := true, apart := false, narrowed := true }
def QuorumLeastUptoSaid : Prop := quorumLeastUptoRow.holds Try.pinned (OpenSpec.upto quorumLeastSpec)

end Rows
end Go.Proofs.Ytcmjdkfndlejcaa
