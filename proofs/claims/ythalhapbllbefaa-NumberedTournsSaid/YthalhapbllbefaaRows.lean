/-
  No cell of these rows narrows 'for every input' (looked for: loops, veiled, ifaces, maps, wideKeys, modest, calm, conditions, laid).
  DERIVED. THE GIVEN ROWS OF THIS SEAT. 11 by the template 'for every input the law returns true; each argument reads behind the call as it read before'; 0 by the template 'total and deterministic' (their statements: YthalhapbllbefaaTotals.lean).
  GIVEN WITH THE SEED: the statements are not yours to turn. If you find one false, say at which input.
  Laid BY PROGRAM, IN A SANDBOX (cutbox-rows.mjs): the forced cells as the released guide's own fill.sh prints them over the translation 43c8b7404a574e4b… (all of the seat's roots in one cut). By AI agents, Wed Nov 11 2026. No macro, syntax, notation, axiom, sorry.
-/
import Derived.Test.YthalhapbllbefaaChecked
import GoSem.Claim
import GoSem.ClaimJoined
import GoSem.ClaimMapViews
import Derived.JoinedTies
import Derived.KernelRfl
namespace Go.Proofs.Ythalhapbllbefaa
/- THE CELL 'sum', in the pinned program and in every row, IS THE sha256 OF THE DUMP (.gsa) THAT YthalhapbllbefaaProg.lean LOADS. Nothing in Lean hashes anything: it is a label: what it is worth is what the hold of that sum in a sandbox is worth. -/
noncomputable def Try.pinned : Pinned := { name := "ythalhapbllbefaa", sum := "43c8b7404a574e4b403a28cbd422c326d91faf56e2470080290f933557dcd730", checked := Try.checked }
namespace Rows
def none {H : Type} : Left H := { results := [], args := [] }

/-- 'brambleweirtop.NumberedStables': WHATEVER THE INPUT: true; the input reads as it did. -/
def numberedStablesSpec : ChangeSpec := { name := "numberedStables", fn := fun _ => fun
  | [d1, d2, d3, d4] => { results := [.lit (.bool true)], args := [d1, d2, d3, d4] }
  | _ => none }
def numberedStablesRow : OpenClaim := { program := "ythalhapbllbefaa", sum := "43c8b7404a574e4b403a28cbd422c326d91faf56e2470080290f933557dcd730", func := "brambleweir/brambleweirtop.NumberedStables", spec := "numberedStables", unfollowed := true, recurses := true, apart := false }
def NumberedStablesSaid : Prop := numberedStablesRow.holds Try.pinned (OpenSpec.ofChange numberedStablesSpec)

/-- ITS FALSE NEIGHBOUR: 'it returns false'. Refute it at one input. -/
def numberedStablesWrong : ChangeSpec := { name := "numberedStables", fn := fun _ => fun
  | [d1, d2, d3, d4] => { results := [.lit (.bool false)], args := [d1, d2, d3, d4] }
  | _ => none }
def NumberedStablesWrongFalsely : Prop := numberedStablesRow.holds Try.pinned (OpenSpec.ofChange numberedStablesWrong)

/-- 'brambleweirtop.NumberedMatches': WHATEVER THE INPUT: true; the input reads as it did. -/
def numberedMatchesSpec : ChangeSpec := { name := "numberedMatches", fn := fun _ => fun
  | [d1, d2, d3, d4, d5] => { results := [.lit (.bool true)], args := [d1, d2, d3, d4, d5] }
  | _ => none }
def numberedMatchesRow : OpenClaim := { program := "ythalhapbllbefaa", sum := "43c8b7404a574e4b403a28cbd422c326d91faf56e2470080290f933557dcd730", func := "brambleweir/brambleweirtop.NumberedMatches", spec := "numberedMatches", unfollowed := true, recurses := true, apart := false }
def NumberedMatchesSaid : Prop := numberedMatchesRow.holds Try.pinned (OpenSpec.ofChange numberedMatchesSpec)

/-- ITS FALSE NEIGHBOUR: 'it returns false'. Refute it at one input. -/
def numberedMatchesWrong : ChangeSpec := { name := "numberedMatches", fn := fun _ => fun
  | [d1, d2, d3, d4, d5] => { results := [.lit (.bool false)], args := [d1, d2, d3, d4, d5] }
  | _ => none }
def NumberedMatchesWrongFalsely : Prop := numberedMatchesRow.holds Try.pinned (OpenSpec.ofChange numberedMatchesWrong)

/-- 'brambleweirtop.NumberedColors': WHATEVER THE INPUT: true; the input reads as it did. -/
def numberedColorsSpec : ChangeSpec := { name := "numberedColors", fn := fun _ => fun
  | [d1, d2, d3, d4] => { results := [.lit (.bool true)], args := [d1, d2, d3, d4] }
  | _ => none }
def numberedColorsRow : OpenClaim := { program := "ythalhapbllbefaa", sum := "43c8b7404a574e4b403a28cbd422c326d91faf56e2470080290f933557dcd730", func := "brambleweir/brambleweirtop.NumberedColors", spec := "numberedColors", unfollowed := true, recurses := true, apart := false }
def NumberedColorsSaid : Prop := numberedColorsRow.holds Try.pinned (OpenSpec.ofChange numberedColorsSpec)

/-- ITS FALSE NEIGHBOUR: 'it returns false'. Refute it at one input. -/
def numberedColorsWrong : ChangeSpec := { name := "numberedColors", fn := fun _ => fun
  | [d1, d2, d3, d4] => { results := [.lit (.bool false)], args := [d1, d2, d3, d4] }
  | _ => none }
def NumberedColorsWrongFalsely : Prop := numberedColorsRow.holds Try.pinned (OpenSpec.ofChange numberedColorsWrong)

/-- 'brambleweirtop.NumberedCuts': WHATEVER THE INPUT: true; the input reads as it did. -/
def numberedCutsSpec : ChangeSpec := { name := "numberedCuts", fn := fun _ => fun
  | [d1, d2, d3, d4] => { results := [.lit (.bool true)], args := [d1, d2, d3, d4] }
  | _ => none }
def numberedCutsRow : OpenClaim := { program := "ythalhapbllbefaa", sum := "43c8b7404a574e4b403a28cbd422c326d91faf56e2470080290f933557dcd730", func := "brambleweir/brambleweirtop.NumberedCuts", spec := "numberedCuts", unfollowed := true, recurses := true, apart := false }
def NumberedCutsSaid : Prop := numberedCutsRow.holds Try.pinned (OpenSpec.ofChange numberedCutsSpec)

/-- ITS FALSE NEIGHBOUR: 'it returns false'. Refute it at one input. -/
def numberedCutsWrong : ChangeSpec := { name := "numberedCuts", fn := fun _ => fun
  | [d1, d2, d3, d4] => { results := [.lit (.bool false)], args := [d1, d2, d3, d4] }
  | _ => none }
def NumberedCutsWrongFalsely : Prop := numberedCutsRow.holds Try.pinned (OpenSpec.ofChange numberedCutsWrong)

/-- 'brambleweirtop.NumberedStrongs': WHATEVER THE INPUT: true; the input reads as it did. -/
def numberedStrongsSpec : ChangeSpec := { name := "numberedStrongs", fn := fun _ => fun
  | [d1, d2, d3, d4] => { results := [.lit (.bool true)], args := [d1, d2, d3, d4] }
  | _ => none }
def numberedStrongsRow : OpenClaim := { program := "ythalhapbllbefaa", sum := "43c8b7404a574e4b403a28cbd422c326d91faf56e2470080290f933557dcd730", func := "brambleweir/brambleweirtop.NumberedStrongs", spec := "numberedStrongs", unfollowed := true, recurses := true, apart := false }
def NumberedStrongsSaid : Prop := numberedStrongsRow.holds Try.pinned (OpenSpec.ofChange numberedStrongsSpec)

/-- ITS FALSE NEIGHBOUR: 'it returns false'. Refute it at one input. -/
def numberedStrongsWrong : ChangeSpec := { name := "numberedStrongs", fn := fun _ => fun
  | [d1, d2, d3, d4] => { results := [.lit (.bool false)], args := [d1, d2, d3, d4] }
  | _ => none }
def NumberedStrongsWrongFalsely : Prop := numberedStrongsRow.holds Try.pinned (OpenSpec.ofChange numberedStrongsWrong)

/-- 'brambleweirtop.NumberedWalks': WHATEVER THE INPUT: true; the input reads as it did. -/
def numberedWalksSpec : ChangeSpec := { name := "numberedWalks", fn := fun _ => fun
  | [d1, d2, d3, d4, d5] => { results := [.lit (.bool true)], args := [d1, d2, d3, d4, d5] }
  | _ => none }
def numberedWalksRow : OpenClaim := { program := "ythalhapbllbefaa", sum := "43c8b7404a574e4b403a28cbd422c326d91faf56e2470080290f933557dcd730", func := "brambleweir/brambleweirtop.NumberedWalks", spec := "numberedWalks", unfollowed := true, recurses := true, apart := false }
def NumberedWalksSaid : Prop := numberedWalksRow.holds Try.pinned (OpenSpec.ofChange numberedWalksSpec)

/-- ITS FALSE NEIGHBOUR: 'it returns false'. Refute it at one input. -/
def numberedWalksWrong : ChangeSpec := { name := "numberedWalks", fn := fun _ => fun
  | [d1, d2, d3, d4, d5] => { results := [.lit (.bool false)], args := [d1, d2, d3, d4, d5] }
  | _ => none }
def NumberedWalksWrongFalsely : Prop := numberedWalksRow.holds Try.pinned (OpenSpec.ofChange numberedWalksWrong)

/-- 'brambleweirtop.NumberedUps': WHATEVER THE INPUT: true; the input reads as it did. -/
def numberedUpsSpec : ChangeSpec := { name := "numberedUps", fn := fun _ => fun
  | [d1, d2, d3, d4, d5, d6, d7] => { results := [.lit (.bool true)], args := [d1, d2, d3, d4, d5, d6, d7] }
  | _ => none }
def numberedUpsRow : OpenClaim := { program := "ythalhapbllbefaa", sum := "43c8b7404a574e4b403a28cbd422c326d91faf56e2470080290f933557dcd730", func := "brambleweir/brambleweirtop.NumberedUps", spec := "numberedUps", unfollowed := true, recurses := true, apart := false }
def NumberedUpsSaid : Prop := numberedUpsRow.holds Try.pinned (OpenSpec.ofChange numberedUpsSpec)

/-- ITS FALSE NEIGHBOUR: 'it returns false'. Refute it at one input. -/
def numberedUpsWrong : ChangeSpec := { name := "numberedUps", fn := fun _ => fun
  | [d1, d2, d3, d4, d5, d6, d7] => { results := [.lit (.bool false)], args := [d1, d2, d3, d4, d5, d6, d7] }
  | _ => none }
def NumberedUpsWrongFalsely : Prop := numberedUpsRow.holds Try.pinned (OpenSpec.ofChange numberedUpsWrong)

/-- 'brambleweirtop.NumberedTourns': WHATEVER THE INPUT: true; the input reads as it did. -/
def numberedTournsSpec : ChangeSpec := { name := "numberedTourns", fn := fun _ => fun
  | [d1, d2, d3, d4] => { results := [.lit (.bool true)], args := [d1, d2, d3, d4] }
  | _ => none }
def numberedTournsRow : OpenClaim := { program := "ythalhapbllbefaa", sum := "43c8b7404a574e4b403a28cbd422c326d91faf56e2470080290f933557dcd730", func := "brambleweir/brambleweirtop.NumberedTourns", spec := "numberedTourns", unfollowed := true, recurses := true, apart := false }
def NumberedTournsSaid : Prop := numberedTournsRow.holds Try.pinned (OpenSpec.ofChange numberedTournsSpec)

/-- ITS FALSE NEIGHBOUR: 'it returns false'. Refute it at one input. -/
def numberedTournsWrong : ChangeSpec := { name := "numberedTourns", fn := fun _ => fun
  | [d1, d2, d3, d4] => { results := [.lit (.bool false)], args := [d1, d2, d3, d4] }
  | _ => none }
def NumberedTournsWrongFalsely : Prop := numberedTournsRow.holds Try.pinned (OpenSpec.ofChange numberedTournsWrong)

/-- 'brambleweirtop.NumberedDegrees': WHATEVER THE INPUT: true; the input reads as it did. -/
def numberedDegreesSpec : ChangeSpec := { name := "numberedDegrees", fn := fun _ => fun
  | [d1, d2, d3, d4] => { results := [.lit (.bool true)], args := [d1, d2, d3, d4] }
  | _ => none }
def numberedDegreesRow : OpenClaim := { program := "ythalhapbllbefaa", sum := "43c8b7404a574e4b403a28cbd422c326d91faf56e2470080290f933557dcd730", func := "brambleweir/brambleweirtop.NumberedDegrees", spec := "numberedDegrees", unfollowed := true, recurses := true, apart := false }
def NumberedDegreesSaid : Prop := numberedDegreesRow.holds Try.pinned (OpenSpec.ofChange numberedDegreesSpec)

/-- ITS FALSE NEIGHBOUR: 'it returns false'. Refute it at one input. -/
def numberedDegreesWrong : ChangeSpec := { name := "numberedDegrees", fn := fun _ => fun
  | [d1, d2, d3, d4] => { results := [.lit (.bool false)], args := [d1, d2, d3, d4] }
  | _ => none }
def NumberedDegreesWrongFalsely : Prop := numberedDegreesRow.holds Try.pinned (OpenSpec.ofChange numberedDegreesWrong)

/-- 'brambleweirtop.NumberedCliques': WHATEVER THE INPUT: true; the input reads as it did. -/
def numberedCliquesSpec : ChangeSpec := { name := "numberedCliques", fn := fun _ => fun
  | [d1, d2, d3, d4] => { results := [.lit (.bool true)], args := [d1, d2, d3, d4] }
  | _ => none }
def numberedCliquesRow : OpenClaim := { program := "ythalhapbllbefaa", sum := "43c8b7404a574e4b403a28cbd422c326d91faf56e2470080290f933557dcd730", func := "brambleweir/brambleweirtop.NumberedCliques", spec := "numberedCliques", unfollowed := true, recurses := true, apart := false }
def NumberedCliquesSaid : Prop := numberedCliquesRow.holds Try.pinned (OpenSpec.ofChange numberedCliquesSpec)

/-- ITS FALSE NEIGHBOUR: 'it returns false'. Refute it at one input. -/
def numberedCliquesWrong : ChangeSpec := { name := "numberedCliques", fn := fun _ => fun
  | [d1, d2, d3, d4] => { results := [.lit (.bool false)], args := [d1, d2, d3, d4] }
  | _ => none }
def NumberedCliquesWrongFalsely : Prop := numberedCliquesRow.holds Try.pinned (OpenSpec.ofChange numberedCliquesWrong)

/-- 'brambleweirtop.NumberedDoms': WHATEVER THE INPUT: true; the input reads as it did. -/
def numberedDomsSpec : ChangeSpec := { name := "numberedDoms", fn := fun _ => fun
  | [d1, d2, d3, d4, d5] => { results := [.lit (.bool true)], args := [d1, d2, d3, d4, d5] }
  | _ => none }
def numberedDomsRow : OpenClaim := { program := "ythalhapbllbefaa", sum := "43c8b7404a574e4b403a28cbd422c326d91faf56e2470080290f933557dcd730", func := "brambleweir/brambleweirtop.NumberedDoms", spec := "numberedDoms", unfollowed := true, recurses := true, apart := false }
def NumberedDomsSaid : Prop := numberedDomsRow.holds Try.pinned (OpenSpec.ofChange numberedDomsSpec)

/-- ITS FALSE NEIGHBOUR: 'it returns false'. Refute it at one input. -/
def numberedDomsWrong : ChangeSpec := { name := "numberedDoms", fn := fun _ => fun
  | [d1, d2, d3, d4, d5] => { results := [.lit (.bool false)], args := [d1, d2, d3, d4, d5] }
  | _ => none }
def NumberedDomsWrongFalsely : Prop := numberedDomsRow.holds Try.pinned (OpenSpec.ofChange numberedDomsWrong)

/- THE SECOND FORM. 'bulk': how many values and letters a reading holds, each counted each time it is reached (what is shared counts as often as it is met; a slice's spare places count too). A statement '..UptoSaid' is the law's where the arguments, and the package variables that the reading takes, are together of bulk at most 1048576: NARROWER than '..Said'. Prove '..Said' where nothing that the law and all that it calls make is longer than what came in: it says more and counts as full. Else prove '..UptoSaid'. A law counts once. -/
mutual
def uptoBulk {H : Type} : DataW H → Nat
  | .lit (.string bytes) => bytes.length + 1
  | .lit _ => 1
  | .nil => 1
  | .ptr d => uptoBulk d + 1
  | .slice elems spare => uptoBulkAll elems + uptoBulkAll spare + 1
  | .agg parts => uptoBulkAll parts + 1
  | .iface _ d => uptoBulk d + 1
  | .map entries => uptoBulkEntries entries + 1
  | .held _ => 1
def uptoBulkAll {H : Type} : List (DataW H) → Nat
  | [] => 0
  | d :: r => uptoBulk d + uptoBulkAll r
def uptoBulkEntries {H : Type} : List (Lit × DataW H) → Nat
  | [] => 0
  | x :: r => uptoBulkEntry x + uptoBulkEntries r
def uptoBulkEntry {H : Type} : Lit × DataW H → Nat
  | (.string bytes, d) => bytes.length + uptoBulk d + 1
  | (_, d) => uptoBulk d + 1
 end
def uptoSmall : (H : Type) → List (DataW H) → Bool := fun _ ds => decide (uptoBulkAll ds ≤ 1048576)
def OpenSpec.upto (s : _root_.Go.ChangeSpec) : _root_.Go.OpenSpec := { _root_.Go.OpenSpec.ofChange s with cond := some uptoSmall }

/-- 'brambleweirtop.NumberedStables', WHERE WHAT IT READS IS OF BULK AT MOST 1048576: true; the input reads as it did. -/
def numberedStablesUptoRow : OpenClaim := { program := "ythalhapbllbefaa", sum := "43c8b7404a574e4b403a28cbd422c326d91faf56e2470080290f933557dcd730", func := "brambleweir/brambleweirtop.NumberedStables", spec := "numberedStables", unfollowed := true, recurses := true, apart := false, narrowed := true }
def NumberedStablesUptoSaid : Prop := numberedStablesUptoRow.holds Try.pinned (OpenSpec.upto numberedStablesSpec)

/-- 'brambleweirtop.NumberedMatches', WHERE WHAT IT READS IS OF BULK AT MOST 1048576: true; the input reads as it did. -/
def numberedMatchesUptoRow : OpenClaim := { program := "ythalhapbllbefaa", sum := "43c8b7404a574e4b403a28cbd422c326d91faf56e2470080290f933557dcd730", func := "brambleweir/brambleweirtop.NumberedMatches", spec := "numberedMatches", unfollowed := true, recurses := true, apart := false, narrowed := true }
def NumberedMatchesUptoSaid : Prop := numberedMatchesUptoRow.holds Try.pinned (OpenSpec.upto numberedMatchesSpec)

/-- 'brambleweirtop.NumberedColors', WHERE WHAT IT READS IS OF BULK AT MOST 1048576: true; the input reads as it did. -/
def numberedColorsUptoRow : OpenClaim := { program := "ythalhapbllbefaa", sum := "43c8b7404a574e4b403a28cbd422c326d91faf56e2470080290f933557dcd730", func := "brambleweir/brambleweirtop.NumberedColors", spec := "numberedColors", unfollowed := true, recurses := true, apart := false, narrowed := true }
def NumberedColorsUptoSaid : Prop := numberedColorsUptoRow.holds Try.pinned (OpenSpec.upto numberedColorsSpec)

/-- 'brambleweirtop.NumberedCuts', WHERE WHAT IT READS IS OF BULK AT MOST 1048576: true; the input reads as it did. -/
def numberedCutsUptoRow : OpenClaim := { program := "ythalhapbllbefaa", sum := "43c8b7404a574e4b403a28cbd422c326d91faf56e2470080290f933557dcd730", func := "brambleweir/brambleweirtop.NumberedCuts", spec := "numberedCuts", unfollowed := true, recurses := true, apart := false, narrowed := true }
def NumberedCutsUptoSaid : Prop := numberedCutsUptoRow.holds Try.pinned (OpenSpec.upto numberedCutsSpec)

/-- 'brambleweirtop.NumberedStrongs', WHERE WHAT IT READS IS OF BULK AT MOST 1048576: true; the input reads as it did. -/
def numberedStrongsUptoRow : OpenClaim := { program := "ythalhapbllbefaa", sum := "43c8b7404a574e4b403a28cbd422c326d91faf56e2470080290f933557dcd730", func := "brambleweir/brambleweirtop.NumberedStrongs", spec := "numberedStrongs", unfollowed := true, recurses := true, apart := false, narrowed := true }
def NumberedStrongsUptoSaid : Prop := numberedStrongsUptoRow.holds Try.pinned (OpenSpec.upto numberedStrongsSpec)

/-- 'brambleweirtop.NumberedWalks', WHERE WHAT IT READS IS OF BULK AT MOST 1048576: true; the input reads as it did. -/
def numberedWalksUptoRow : OpenClaim := { program := "ythalhapbllbefaa", sum := "43c8b7404a574e4b403a28cbd422c326d91faf56e2470080290f933557dcd730", func := "brambleweir/brambleweirtop.NumberedWalks", spec := "numberedWalks", unfollowed := true, recurses := true, apart := false, narrowed := true }
def NumberedWalksUptoSaid : Prop := numberedWalksUptoRow.holds Try.pinned (OpenSpec.upto numberedWalksSpec)

/-- 'brambleweirtop.NumberedUps', WHERE WHAT IT READS IS OF BULK AT MOST 1048576: true; the input reads as it did. -/
def numberedUpsUptoRow : OpenClaim := { program := "ythalhapbllbefaa", sum := "43c8b7404a574e4b403a28cbd422c326d91faf56e2470080290f933557dcd730", func := "brambleweir/brambleweirtop.NumberedUps", spec := "numberedUps", unfollowed := true, recurses := true, apart := false, narrowed := true }
def NumberedUpsUptoSaid : Prop := numberedUpsUptoRow.holds Try.pinned (OpenSpec.upto numberedUpsSpec)

/-- 'brambleweirtop.NumberedTourns', WHERE WHAT IT READS IS OF BULK AT MOST 1048576: true; the input reads as it did. -/
def numberedTournsUptoRow : OpenClaim := { program := "ythalhapbllbefaa", sum := "43c8b7404a574e4b403a28cbd422c326d91faf56e2470080290f933557dcd730", func := "brambleweir/brambleweirtop.NumberedTourns", spec := "numberedTourns", unfollowed := true, recurses := true, apart := false, narrowed := true }
def NumberedTournsUptoSaid : Prop := numberedTournsUptoRow.holds Try.pinned (OpenSpec.upto numberedTournsSpec)

/-- 'brambleweirtop.NumberedDegrees', WHERE WHAT IT READS IS OF BULK AT MOST 1048576: true; the input reads as it did. -/
def numberedDegreesUptoRow : OpenClaim := { program := "ythalhapbllbefaa", sum := "43c8b7404a574e4b403a28cbd422c326d91faf56e2470080290f933557dcd730", func := "brambleweir/brambleweirtop.NumberedDegrees", spec := "numberedDegrees", unfollowed := true, recurses := true, apart := false, narrowed := true }
def NumberedDegreesUptoSaid : Prop := numberedDegreesUptoRow.holds Try.pinned (OpenSpec.upto numberedDegreesSpec)

/-- 'brambleweirtop.NumberedCliques', WHERE WHAT IT READS IS OF BULK AT MOST 1048576: true; the input reads as it did. -/
def numberedCliquesUptoRow : OpenClaim := { program := "ythalhapbllbefaa", sum := "43c8b7404a574e4b403a28cbd422c326d91faf56e2470080290f933557dcd730", func := "brambleweir/brambleweirtop.NumberedCliques", spec := "numberedCliques", unfollowed := true, recurses := true, apart := false, narrowed := true }
def NumberedCliquesUptoSaid : Prop := numberedCliquesUptoRow.holds Try.pinned (OpenSpec.upto numberedCliquesSpec)

/-- 'brambleweirtop.NumberedDoms', WHERE WHAT IT READS IS OF BULK AT MOST 1048576: true; the input reads as it did. -/
def numberedDomsUptoRow : OpenClaim := { program := "ythalhapbllbefaa", sum := "43c8b7404a574e4b403a28cbd422c326d91faf56e2470080290f933557dcd730", func := "brambleweir/brambleweirtop.NumberedDoms", spec := "numberedDoms", unfollowed := true, recurses := true, apart := false, narrowed := true }
def NumberedDomsUptoSaid : Prop := numberedDomsUptoRow.holds Try.pinned (OpenSpec.upto numberedDomsSpec)

end Rows
end Go.Proofs.Ythalhapbllbefaa
