/-
  NARROWER THAN 'FOR EVERY INPUT', by the rows' own cells (each row's printed sentence says how): TypesOf: loops · TypesNames: loops · TypesFolds: loops · TypesStay: loops · TypesParts: loops · TypesRound: loops.
  DERIVED. THE GIVEN ROWS OF THIS SEAT. 6 by the template 'for every input the law returns true; each argument reads behind the call as it read before'; 0 by the template 'total and deterministic' (their statements: YtghiaobecppbeaaTotals.lean).
  GIVEN WITH THE SEED: the statements are not yours to turn. If you find one false, say at which input.
  Laid BY PROGRAM, IN A SANDBOX (cutbox-rows.mjs): the forced cells as the released guide's own fill.sh prints them over the translation cc714d664c999a07… (all of the seat's roots in one cut). By AI agents, Wed Nov 11 2026. No macro, syntax, notation, axiom, sorry.
-/
import Derived.Test.YtghiaobecppbeaaChecked
import GoSem.Claim
import GoSem.ClaimJoined
import GoSem.ClaimMapViews
import Derived.JoinedTies
import Derived.KernelRfl
namespace Go.Proofs.Ytghiaobecppbeaa
/- THE CELL 'sum', in the pinned program and in every row, IS THE sha256 OF THE DUMP (.gsa) THAT YtghiaobecppbeaaProg.lean LOADS. Nothing in Lean hashes anything: it is a label: what it is worth is what the hold of that sum in a sandbox is worth. -/
noncomputable def Try.pinned : Pinned := { name := "ytghiaobecppbeaa", sum := "cc714d664c999a077b3a426a9ebd77466c1a25117dc69a2faee762cfd8d1d2cd", checked := Try.checked }
namespace Rows
def none {H : Type} : Left H := { results := [], args := [] }

/-- 'funicularlaw08.TypesOf': WHATEVER THE INPUT: true; the input reads as it did. -/
def typesOfSpec : ChangeSpec := { name := "typesOf", fn := fun _ => fun
  | [d] => { results := [.lit (.bool true)], args := [d] }
  | _ => none }
def typesOfRow : OpenClaim := { program := "ytghiaobecppbeaa", sum := "cc714d664c999a077b3a426a9ebd77466c1a25117dc69a2faee762cfd8d1d2cd", func := "funicular/funicularlaw08.TypesOf", spec := "typesOf", recurses := true, loops := true, apart := false }
def TypesOfSaid : Prop := typesOfRow.holds Try.pinned (OpenSpec.ofChange typesOfSpec)

/-- ITS FALSE NEIGHBOUR: 'it returns false'. Refute it at one input. -/
def typesOfWrong : ChangeSpec := { name := "typesOf", fn := fun _ => fun
  | [d] => { results := [.lit (.bool false)], args := [d] }
  | _ => none }
def TypesOfWrongFalsely : Prop := typesOfRow.holds Try.pinned (OpenSpec.ofChange typesOfWrong)

/-- 'funicularlaw08.TypesNames': WHATEVER THE INPUT: true; the input reads as it did. -/
def typesNamesSpec : ChangeSpec := { name := "typesNames", fn := fun _ => fun
  | [d1, d2, d3] => { results := [.lit (.bool true)], args := [d1, d2, d3] }
  | _ => none }
def typesNamesRow : OpenClaim := { program := "ytghiaobecppbeaa", sum := "cc714d664c999a077b3a426a9ebd77466c1a25117dc69a2faee762cfd8d1d2cd", func := "funicular/funicularlaw08.TypesNames", spec := "typesNames", recurses := true, loops := true, apart := false }
def TypesNamesSaid : Prop := typesNamesRow.holds Try.pinned (OpenSpec.ofChange typesNamesSpec)

/-- ITS FALSE NEIGHBOUR: 'it returns false'. Refute it at one input. -/
def typesNamesWrong : ChangeSpec := { name := "typesNames", fn := fun _ => fun
  | [d1, d2, d3] => { results := [.lit (.bool false)], args := [d1, d2, d3] }
  | _ => none }
def TypesNamesWrongFalsely : Prop := typesNamesRow.holds Try.pinned (OpenSpec.ofChange typesNamesWrong)

/-- 'funicularlaw08.TypesFolds': WHATEVER THE INPUT: true; the input reads as it did. -/
def typesFoldsSpec : ChangeSpec := { name := "typesFolds", fn := fun _ => fun
  | [d] => { results := [.lit (.bool true)], args := [d] }
  | _ => none }
def typesFoldsRow : OpenClaim := { program := "ytghiaobecppbeaa", sum := "cc714d664c999a077b3a426a9ebd77466c1a25117dc69a2faee762cfd8d1d2cd", func := "funicular/funicularlaw08.TypesFolds", spec := "typesFolds", recurses := true, loops := true, apart := false }
def TypesFoldsSaid : Prop := typesFoldsRow.holds Try.pinned (OpenSpec.ofChange typesFoldsSpec)

/-- ITS FALSE NEIGHBOUR: 'it returns false'. Refute it at one input. -/
def typesFoldsWrong : ChangeSpec := { name := "typesFolds", fn := fun _ => fun
  | [d] => { results := [.lit (.bool false)], args := [d] }
  | _ => none }
def TypesFoldsWrongFalsely : Prop := typesFoldsRow.holds Try.pinned (OpenSpec.ofChange typesFoldsWrong)

/-- 'funicularlaw08.TypesStay': WHATEVER THE INPUT: true; the input reads as it did. -/
def typesStaySpec : ChangeSpec := { name := "typesStay", fn := fun _ => fun
  | [d] => { results := [.lit (.bool true)], args := [d] }
  | _ => none }
def typesStayRow : OpenClaim := { program := "ytghiaobecppbeaa", sum := "cc714d664c999a077b3a426a9ebd77466c1a25117dc69a2faee762cfd8d1d2cd", func := "funicular/funicularlaw08.TypesStay", spec := "typesStay", recurses := true, loops := true, apart := false }
def TypesStaySaid : Prop := typesStayRow.holds Try.pinned (OpenSpec.ofChange typesStaySpec)

/-- ITS FALSE NEIGHBOUR: 'it returns false'. Refute it at one input. -/
def typesStayWrong : ChangeSpec := { name := "typesStay", fn := fun _ => fun
  | [d] => { results := [.lit (.bool false)], args := [d] }
  | _ => none }
def TypesStayWrongFalsely : Prop := typesStayRow.holds Try.pinned (OpenSpec.ofChange typesStayWrong)

/-- 'funicularlaw08.TypesParts': WHATEVER THE INPUT: true; the input reads as it did. -/
def typesPartsSpec : ChangeSpec := { name := "typesParts", fn := fun _ => fun
  | [d1, d2] => { results := [.lit (.bool true)], args := [d1, d2] }
  | _ => none }
def typesPartsRow : OpenClaim := { program := "ytghiaobecppbeaa", sum := "cc714d664c999a077b3a426a9ebd77466c1a25117dc69a2faee762cfd8d1d2cd", func := "funicular/funicularlaw08.TypesParts", spec := "typesParts", recurses := true, loops := true, apart := false }
def TypesPartsSaid : Prop := typesPartsRow.holds Try.pinned (OpenSpec.ofChange typesPartsSpec)

/-- ITS FALSE NEIGHBOUR: 'it returns false'. Refute it at one input. -/
def typesPartsWrong : ChangeSpec := { name := "typesParts", fn := fun _ => fun
  | [d1, d2] => { results := [.lit (.bool false)], args := [d1, d2] }
  | _ => none }
def TypesPartsWrongFalsely : Prop := typesPartsRow.holds Try.pinned (OpenSpec.ofChange typesPartsWrong)

/-- 'funicularlaw08.TypesRound': WHATEVER THE INPUT: true; the input reads as it did. -/
def typesRoundSpec : ChangeSpec := { name := "typesRound", fn := fun _ => fun
  | [d1, d2, d3] => { results := [.lit (.bool true)], args := [d1, d2, d3] }
  | _ => none }
def typesRoundRow : OpenClaim := { program := "ytghiaobecppbeaa", sum := "cc714d664c999a077b3a426a9ebd77466c1a25117dc69a2faee762cfd8d1d2cd", func := "funicular/funicularlaw08.TypesRound", spec := "typesRound", recurses := true, loops := true, apart := false }
def TypesRoundSaid : Prop := typesRoundRow.holds Try.pinned (OpenSpec.ofChange typesRoundSpec)

/-- ITS FALSE NEIGHBOUR: 'it returns false'. Refute it at one input. -/
def typesRoundWrong : ChangeSpec := { name := "typesRound", fn := fun _ => fun
  | [d1, d2, d3] => { results := [.lit (.bool false)], args := [d1, d2, d3] }
  | _ => none }
def TypesRoundWrongFalsely : Prop := typesRoundRow.holds Try.pinned (OpenSpec.ofChange typesRoundWrong)

/- THE SECOND FORM. 'bulk': how many values and letters a reading holds, each counted each time it is reached (what is shared counts as often as it is met; a slice's spare places count too). A statement '..UptoSaid' is the law's where the arguments, and the package variables that the reading takes, are together of bulk at most 1048576: NARROWER than '..Said'. Prove '..Said' where nothing that the law and all that it calls make is longer than what came in: it says more and counts as full. Else prove '..UptoSaid'. A law counts once. -/
mutual
def uptoBulk {H : Type} : DataW H → Nat
  | .lit (.string bytes) => bytes.length + 1
  | .lit _ => 1
  | .nil => 1
  | .ptr d => uptoBulk d + 1
  | .slice elems spare => uptoBulkAll elems + uptoBulkAll spare + 1
  | .agg parts => uptoBulkAll parts + 1
  | .iface _ d => uptoBulk d + 1
  | .map entries => uptoBulkEntries entries + 1
  | .held _ => 1
def uptoBulkAll {H : Type} : List (DataW H) → Nat
  | [] => 0
  | d :: r => uptoBulk d + uptoBulkAll r
def uptoBulkEntries {H : Type} : List (Lit × DataW H) → Nat
  | [] => 0
  | x :: r => uptoBulkEntry x + uptoBulkEntries r
def uptoBulkEntry {H : Type} : Lit × DataW H → Nat
  | (.string bytes, d) => bytes.length + uptoBulk d + 1
  | (_, d) => uptoBulk d + 1
 end
def uptoSmall : (H : Type) → List (DataW H) → Bool := fun _ ds => decide (uptoBulkAll ds ≤ 1048576)
def OpenSpec.upto (s : _root_.Go.ChangeSpec) : _root_.Go.OpenSpec := { _root_.Go.OpenSpec.ofChange s with cond := some uptoSmall }

/-- 'funicularlaw08.TypesOf', WHERE WHAT IT READS IS OF BULK AT MOST 1048576: true; the input reads as it did. -/
def typesOfUptoRow : OpenClaim := { program := "ytghiaobecppbeaa", sum := "cc714d664c999a077b3a426a9ebd77466c1a25117dc69a2faee762cfd8d1d2cd", func := "funicular/funicularlaw08.TypesOf", spec := "typesOf", recurses := true, loops := true, apart := false, narrowed := true }
def TypesOfUptoSaid : Prop := typesOfUptoRow.holds Try.pinned (OpenSpec.upto typesOfSpec)

/-- 'funicularlaw08.TypesNames', WHERE WHAT IT READS IS OF BULK AT MOST 1048576: true; the input reads as it did. -/
def typesNamesUptoRow : OpenClaim := { program := "ytghiaobecppbeaa", sum := "cc714d664c999a077b3a426a9ebd77466c1a25117dc69a2faee762cfd8d1d2cd", func := "funicular/funicularlaw08.TypesNames", spec := "typesNames", recurses := true, loops := true, apart := false, narrowed := true }
def TypesNamesUptoSaid : Prop := typesNamesUptoRow.holds Try.pinned (OpenSpec.upto typesNamesSpec)

/-- 'funicularlaw08.TypesFolds', WHERE WHAT IT READS IS OF BULK AT MOST 1048576: true; the input reads as it did. -/
def typesFoldsUptoRow : OpenClaim := { program := "ytghiaobecppbeaa", sum := "cc714d664c999a077b3a426a9ebd77466c1a25117dc69a2faee762cfd8d1d2cd", func := "funicular/funicularlaw08.TypesFolds", spec := "typesFolds", recurses := true, loops := true, apart := false, narrowed := true }
def TypesFoldsUptoSaid : Prop := typesFoldsUptoRow.holds Try.pinned (OpenSpec.upto typesFoldsSpec)

/-- 'funicularlaw08.TypesStay', WHERE WHAT IT READS IS OF BULK AT MOST 1048576: true; the input reads as it did. -/
def typesStayUptoRow : OpenClaim := { program := "ytghiaobecppbeaa", sum := "cc714d664c999a077b3a426a9ebd77466c1a25117dc69a2faee762cfd8d1d2cd", func := "funicular/funicularlaw08.TypesStay", spec := "typesStay", recurses := true, loops := true, apart := false, narrowed := true }
def TypesStayUptoSaid : Prop := typesStayUptoRow.holds Try.pinned (OpenSpec.upto typesStaySpec)

/-- 'funicularlaw08.TypesParts', WHERE WHAT IT READS IS OF BULK AT MOST 1048576: true; the input reads as it did. -/
def typesPartsUptoRow : OpenClaim := { program := "ytghiaobecppbeaa", sum := "cc714d664c999a077b3a426a9ebd77466c1a25117dc69a2faee762cfd8d1d2cd", func := "funicular/funicularlaw08.TypesParts", spec := "typesParts", recurses := true, loops := true, apart := false, narrowed := true }
def TypesPartsUptoSaid : Prop := typesPartsUptoRow.holds Try.pinned (OpenSpec.upto typesPartsSpec)

/-- 'funicularlaw08.TypesRound', WHERE WHAT IT READS IS OF BULK AT MOST 1048576: true; the input reads as it did. -/
def typesRoundUptoRow : OpenClaim := { program := "ytghiaobecppbeaa", sum := "cc714d664c999a077b3a426a9ebd77466c1a25117dc69a2faee762cfd8d1d2cd", func := "funicular/funicularlaw08.TypesRound", spec := "typesRound", recurses := true, loops := true, apart := false, narrowed := true }
def TypesRoundUptoSaid : Prop := typesRoundUptoRow.holds Try.pinned (OpenSpec.upto typesRoundSpec)

end Rows
end Go.Proofs.Ytghiaobecppbeaa
