/-
  NARROWER THAN 'FOR EVERY INPUT', by the rows' own cells (each row's printed sentence says how): ModelChecks: loops · ModelTrees: loops · ModelPuts: loops · ModelBack: loops · ModelSame: loops.
  DERIVED. THE GIVEN ROWS OF THIS SEAT. 7 by the template 'for every input the law returns true; each argument reads behind the call as it read before'; 0 by the template 'total and deterministic' (their statements: YtahnmikdpclbfaaTotals.lean).
  GIVEN WITH THE SEED: the statements are not yours to turn. If you find one false, say at which input.
  Laid BY PROGRAM, IN A SANDBOX (cutbox-rows.mjs): the forced cells as the released guide's own fill.sh prints them over the translation 69babcd958af7e28… (all of the seat's roots in one cut). By AI agents, Wed Nov 11 2026. No macro, syntax, notation, axiom, sorry.
-/
import Derived.Test.YtahnmikdpclbfaaChecked
import GoSem.Claim
import GoSem.ClaimJoined
import GoSem.ClaimMapViews
import Derived.JoinedTies
import Derived.KernelRfl
namespace Go.Proofs.Ytahnmikdpclbfaa
/- THE CELL 'sum', in the pinned program and in every row, IS THE sha256 OF THE DUMP (.gsa) THAT YtahnmikdpclbfaaProg.lean LOADS. Nothing in Lean hashes anything: it is a label: what it is worth is what the hold of that sum in a sandbox is worth. -/
noncomputable def Try.pinned : Pinned := { name := "ytahnmikdpclbfaa", sum := "69babcd958af7e281aacbcb140b2b0dced215fee3f3c0df133a9de410cfdeb32", checked := Try.checked }
namespace Rows
def none {H : Type} : Left H := { results := [], args := [] }

/-- 'funicularlaw11.ModelChecks': WHATEVER THE INPUT: true; the input reads as it did. -/
def modelChecksSpec : ChangeSpec := { name := "modelChecks", fn := fun _ => fun
  | [d] => { results := [.lit (.bool true)], args := [d] }
  | _ => none }
def modelChecksRow : OpenClaim := { program := "ytahnmikdpclbfaa", sum := "69babcd958af7e281aacbcb140b2b0dced215fee3f3c0df133a9de410cfdeb32", func := "funicular/funicularlaw11.ModelChecks", spec := "modelChecks", unfollowed := true, recurses := true, loops := true, apart := false }
def ModelChecksSaid : Prop := modelChecksRow.holds Try.pinned (OpenSpec.ofChange modelChecksSpec)

/-- ITS FALSE NEIGHBOUR: 'it returns false'. Refute it at one input. -/
def modelChecksWrong : ChangeSpec := { name := "modelChecks", fn := fun _ => fun
  | [d] => { results := [.lit (.bool false)], args := [d] }
  | _ => none }
def ModelChecksWrongFalsely : Prop := modelChecksRow.holds Try.pinned (OpenSpec.ofChange modelChecksWrong)

/-- 'funicularlaw11.ModelTrees': WHATEVER THE INPUT: true; the input reads as it did. -/
def modelTreesSpec : ChangeSpec := { name := "modelTrees", fn := fun _ => fun
  | [d1, d2] => { results := [.lit (.bool true)], args := [d1, d2] }
  | _ => none }
def modelTreesRow : OpenClaim := { program := "ytahnmikdpclbfaa", sum := "69babcd958af7e281aacbcb140b2b0dced215fee3f3c0df133a9de410cfdeb32", func := "funicular/funicularlaw11.ModelTrees", spec := "modelTrees", unfollowed := true, recurses := true, loops := true, apart := false }
def ModelTreesSaid : Prop := modelTreesRow.holds Try.pinned (OpenSpec.ofChange modelTreesSpec)

/-- ITS FALSE NEIGHBOUR: 'it returns false'. Refute it at one input. -/
def modelTreesWrong : ChangeSpec := { name := "modelTrees", fn := fun _ => fun
  | [d1, d2] => { results := [.lit (.bool false)], args := [d1, d2] }
  | _ => none }
def ModelTreesWrongFalsely : Prop := modelTreesRow.holds Try.pinned (OpenSpec.ofChange modelTreesWrong)

/-- 'funicularlaw11.ModelPuts': WHATEVER THE INPUT: true; the input reads as it did. -/
def modelPutsSpec : ChangeSpec := { name := "modelPuts", fn := fun _ => fun
  | [d] => { results := [.lit (.bool true)], args := [d] }
  | _ => none }
def modelPutsRow : OpenClaim := { program := "ytahnmikdpclbfaa", sum := "69babcd958af7e281aacbcb140b2b0dced215fee3f3c0df133a9de410cfdeb32", func := "funicular/funicularlaw11.ModelPuts", spec := "modelPuts", unfollowed := true, recurses := true, loops := true, apart := false }
def ModelPutsSaid : Prop := modelPutsRow.holds Try.pinned (OpenSpec.ofChange modelPutsSpec)

/-- ITS FALSE NEIGHBOUR: 'it returns false'. Refute it at one input. -/
def modelPutsWrong : ChangeSpec := { name := "modelPuts", fn := fun _ => fun
  | [d] => { results := [.lit (.bool false)], args := [d] }
  | _ => none }
def ModelPutsWrongFalsely : Prop := modelPutsRow.holds Try.pinned (OpenSpec.ofChange modelPutsWrong)

/-- 'funicularlaw11.ModelReads': WHATEVER THE INPUT: true; the input reads as it did. -/
def modelReadsSpec : ChangeSpec := { name := "modelReads", fn := fun _ => fun
  | [d] => { results := [.lit (.bool true)], args := [d] }
  | _ => none }
def modelReadsRow : OpenClaim := { program := "ytahnmikdpclbfaa", sum := "69babcd958af7e281aacbcb140b2b0dced215fee3f3c0df133a9de410cfdeb32", func := "funicular/funicularlaw11.ModelReads", spec := "modelReads", unfollowed := true, recurses := true, apart := false }
def ModelReadsSaid : Prop := modelReadsRow.holds Try.pinned (OpenSpec.ofChange modelReadsSpec)

/-- ITS FALSE NEIGHBOUR: 'it returns false'. Refute it at one input. -/
def modelReadsWrong : ChangeSpec := { name := "modelReads", fn := fun _ => fun
  | [d] => { results := [.lit (.bool false)], args := [d] }
  | _ => none }
def ModelReadsWrongFalsely : Prop := modelReadsRow.holds Try.pinned (OpenSpec.ofChange modelReadsWrong)

/-- 'funicularlaw11.ModelBack': WHATEVER THE INPUT: true; the input reads as it did. -/
def modelBackSpec : ChangeSpec := { name := "modelBack", fn := fun _ => fun
  | [d1, d2, d3] => { results := [.lit (.bool true)], args := [d1, d2, d3] }
  | _ => none }
def modelBackRow : OpenClaim := { program := "ytahnmikdpclbfaa", sum := "69babcd958af7e281aacbcb140b2b0dced215fee3f3c0df133a9de410cfdeb32", func := "funicular/funicularlaw11.ModelBack", spec := "modelBack", unfollowed := true, recurses := true, loops := true, apart := false }
def ModelBackSaid : Prop := modelBackRow.holds Try.pinned (OpenSpec.ofChange modelBackSpec)

/-- ITS FALSE NEIGHBOUR: 'it returns false'. Refute it at one input. -/
def modelBackWrong : ChangeSpec := { name := "modelBack", fn := fun _ => fun
  | [d1, d2, d3] => { results := [.lit (.bool false)], args := [d1, d2, d3] }
  | _ => none }
def ModelBackWrongFalsely : Prop := modelBackRow.holds Try.pinned (OpenSpec.ofChange modelBackWrong)

/-- 'funicularlaw11.ModelOnce': WHATEVER THE INPUT: true; the input reads as it did. -/
def modelOnceSpec : ChangeSpec := { name := "modelOnce", fn := fun _ => fun
  | [d] => { results := [.lit (.bool true)], args := [d] }
  | _ => none }
def modelOnceRow : OpenClaim := { program := "ytahnmikdpclbfaa", sum := "69babcd958af7e281aacbcb140b2b0dced215fee3f3c0df133a9de410cfdeb32", func := "funicular/funicularlaw11.ModelOnce", spec := "modelOnce", unfollowed := true, recurses := true, apart := false }
def ModelOnceSaid : Prop := modelOnceRow.holds Try.pinned (OpenSpec.ofChange modelOnceSpec)

/-- ITS FALSE NEIGHBOUR: 'it returns false'. Refute it at one input. -/
def modelOnceWrong : ChangeSpec := { name := "modelOnce", fn := fun _ => fun
  | [d] => { results := [.lit (.bool false)], args := [d] }
  | _ => none }
def ModelOnceWrongFalsely : Prop := modelOnceRow.holds Try.pinned (OpenSpec.ofChange modelOnceWrong)

/-- 'funicularlaw11.ModelSame': WHATEVER THE INPUT: true; the input reads as it did. -/
def modelSameSpec : ChangeSpec := { name := "modelSame", fn := fun _ => fun
  | [d1, d2] => { results := [.lit (.bool true)], args := [d1, d2] }
  | _ => none }
def modelSameRow : OpenClaim := { program := "ytahnmikdpclbfaa", sum := "69babcd958af7e281aacbcb140b2b0dced215fee3f3c0df133a9de410cfdeb32", func := "funicular/funicularlaw11.ModelSame", spec := "modelSame", unfollowed := true, recurses := true, loops := true, apart := false }
def ModelSameSaid : Prop := modelSameRow.holds Try.pinned (OpenSpec.ofChange modelSameSpec)

/-- ITS FALSE NEIGHBOUR: 'it returns false'. Refute it at one input. -/
def modelSameWrong : ChangeSpec := { name := "modelSame", fn := fun _ => fun
  | [d1, d2] => { results := [.lit (.bool false)], args := [d1, d2] }
  | _ => none }
def ModelSameWrongFalsely : Prop := modelSameRow.holds Try.pinned (OpenSpec.ofChange modelSameWrong)

/- THE SECOND FORM. 'bulk': how many values and letters a reading holds, each counted each time it is reached (what is shared counts as often as it is met; a slice's spare places count too). A statement '..UptoSaid' is the law's where the arguments, and the package variables that the reading takes, are together of bulk at most 1048576: NARROWER than '..Said'. Prove '..Said' where nothing that the law and all that it calls make is longer than what came in: it says more and counts as full. Else prove '..UptoSaid'. A law counts once. -/
mutual
def uptoBulk {H : Type} : DataW H → Nat
  | .lit (.string bytes) => bytes.length + 1
  | .lit _ => 1
  | .nil => 1
  | .ptr d => uptoBulk d + 1
  | .slice elems spare => uptoBulkAll elems + uptoBulkAll spare + 1
  | .agg parts => uptoBulkAll parts + 1
  | .iface _ d => uptoBulk d + 1
  | .map entries => uptoBulkEntries entries + 1
  | .held _ => 1
def uptoBulkAll {H : Type} : List (DataW H) → Nat
  | [] => 0
  | d :: r => uptoBulk d + uptoBulkAll r
def uptoBulkEntries {H : Type} : List (Lit × DataW H) → Nat
  | [] => 0
  | x :: r => uptoBulkEntry x + uptoBulkEntries r
def uptoBulkEntry {H : Type} : Lit × DataW H → Nat
  | (.string bytes, d) => bytes.length + uptoBulk d + 1
  | (_, d) => uptoBulk d + 1
 end
def uptoSmall : (H : Type) → List (DataW H) → Bool := fun _ ds => decide (uptoBulkAll ds ≤ 1048576)
def OpenSpec.upto (s : _root_.Go.ChangeSpec) : _root_.Go.OpenSpec := { _root_.Go.OpenSpec.ofChange s with cond := some uptoSmall }

/-- 'funicularlaw11.ModelChecks', WHERE WHAT IT READS IS OF BULK AT MOST 1048576: true; the input reads as it did. -/
def modelChecksUptoRow : OpenClaim := { program := "ytahnmikdpclbfaa", sum := "69babcd958af7e281aacbcb140b2b0dced215fee3f3c0df133a9de410cfdeb32", func := "funicular/funicularlaw11.ModelChecks", spec := "modelChecks", unfollowed := true, recurses := true, loops := true, apart := false, narrowed := true }
def ModelChecksUptoSaid : Prop := modelChecksUptoRow.holds Try.pinned (OpenSpec.upto modelChecksSpec)

/-- 'funicularlaw11.ModelTrees', WHERE WHAT IT READS IS OF BULK AT MOST 1048576: true; the input reads as it did. -/
def modelTreesUptoRow : OpenClaim := { program := "ytahnmikdpclbfaa", sum := "69babcd958af7e281aacbcb140b2b0dced215fee3f3c0df133a9de410cfdeb32", func := "funicular/funicularlaw11.ModelTrees", spec := "modelTrees", unfollowed := true, recurses := true, loops := true, apart := false, narrowed := true }
def ModelTreesUptoSaid : Prop := modelTreesUptoRow.holds Try.pinned (OpenSpec.upto modelTreesSpec)

/-- 'funicularlaw11.ModelPuts', WHERE WHAT IT READS IS OF BULK AT MOST 1048576: true; the input reads as it did. -/
def modelPutsUptoRow : OpenClaim := { program := "ytahnmikdpclbfaa", sum := "69babcd958af7e281aacbcb140b2b0dced215fee3f3c0df133a9de410cfdeb32", func := "funicular/funicularlaw11.ModelPuts", spec := "modelPuts", unfollowed := true, recurses := true, loops := true, apart := false, narrowed := true }
def ModelPutsUptoSaid : Prop := modelPutsUptoRow.holds Try.pinned (OpenSpec.upto modelPutsSpec)

/-- 'funicularlaw11.ModelReads', WHERE WHAT IT READS IS OF BULK AT MOST 1048576: true; the input reads as it did. -/
def modelReadsUptoRow : OpenClaim := { program := "ytahnmikdpclbfaa", sum := "69babcd958af7e281aacbcb140b2b0dced215fee3f3c0df133a9de410cfdeb32", func := "funicular/funicularlaw11.ModelReads", spec := "modelReads", unfollowed := true, recurses := true, apart := false, narrowed := true }
def ModelReadsUptoSaid : Prop := modelReadsUptoRow.holds Try.pinned (OpenSpec.upto modelReadsSpec)

/-- 'funicularlaw11.ModelBack', WHERE WHAT IT READS IS OF BULK AT MOST 1048576: true; the input reads as it did. -/
def modelBackUptoRow : OpenClaim := { program := "ytahnmikdpclbfaa", sum := "69babcd958af7e281aacbcb140b2b0dced215fee3f3c0df133a9de410cfdeb32", func := "funicular/funicularlaw11.ModelBack", spec := "modelBack", unfollowed := true, recurses := true, loops := true, apart := false, narrowed := true }
def ModelBackUptoSaid : Prop := modelBackUptoRow.holds Try.pinned (OpenSpec.upto modelBackSpec)

/-- 'funicularlaw11.ModelOnce', WHERE WHAT IT READS IS OF BULK AT MOST 1048576: true; the input reads as it did. -/
def modelOnceUptoRow : OpenClaim := { program := "ytahnmikdpclbfaa", sum := "69babcd958af7e281aacbcb140b2b0dced215fee3f3c0df133a9de410cfdeb32", func := "funicular/funicularlaw11.ModelOnce", spec := "modelOnce", unfollowed := true, recurses := true, apart := false, narrowed := true }
def ModelOnceUptoSaid : Prop := modelOnceUptoRow.holds Try.pinned (OpenSpec.upto modelOnceSpec)

/-- 'funicularlaw11.ModelSame', WHERE WHAT IT READS IS OF BULK AT MOST 1048576: true; the input reads as it did. -/
def modelSameUptoRow : OpenClaim := { program := "ytahnmikdpclbfaa", sum := "69babcd958af7e281aacbcb140b2b0dced215fee3f3c0df133a9de410cfdeb32", func := "funicular/funicularlaw11.ModelSame", spec := "modelSame", unfollowed := true, recurses := true, loops := true, apart := false, narrowed := true }
def ModelSameUptoSaid : Prop := modelSameUptoRow.holds Try.pinned (OpenSpec.upto modelSameSpec)

end Rows
end Go.Proofs.Ytahnmikdpclbfaa
