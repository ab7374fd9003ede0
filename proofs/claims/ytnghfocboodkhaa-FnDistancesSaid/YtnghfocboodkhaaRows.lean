/-
  No cell of these rows narrows 'for every input' (looked for: loops, veiled, ifaces, maps, wideKeys, modest, calm, conditions, laid).
  DERIVED. THE GIVEN ROWS OF THIS SEAT. 12 by the template 'for every input the law returns true; each argument reads behind the call as it read before'; 0 by the template 'total and deterministic' (their statements: YtnghfocboodkhaaTotals.lean).
  GIVEN WITH THE SEED: the statements are not yours to turn. If you find one false, say at which input.
  Laid BY PROGRAM, IN A SANDBOX (cutbox-rows.mjs): the forced cells as the released guide's own fill.sh prints them over the translation a11332439c18c522… (all of the seat's roots in one cut). By AI agents, Wed Nov 11 2026. No macro, syntax, notation, axiom, sorry.
-/
import Derived.Test.YtnghfocboodkhaaChecked
import GoSem.Claim
import GoSem.ClaimJoined
import GoSem.ClaimMapViews
import Derived.JoinedTies
import Derived.KernelRfl
namespace Go.Proofs.Ytnghfocboodkhaa
/- THE CELL 'sum', in the pinned program and in every row, IS THE sha256 OF THE DUMP (.gsa) THAT YtnghfocboodkhaaProg.lean LOADS. Nothing in Lean hashes anything: it is a label: what it is worth is what the hold of that sum in a sandbox is worth. -/
noncomputable def Try.pinned : Pinned := { name := "ytnghfocboodkhaa", sum := "a11332439c18c52259feaec62252aa43cf22fe580140ad4057510cf56934ba17", checked := Try.checked }
namespace Rows
def none {H : Type} : Left H := { results := [], args := [] }

/-- 'laws.FnExactSampleBody': WHATEVER THE INPUT: true; the input reads as it did. -/
def fnExactSampleBodySpec : ChangeSpec := { name := "fnExactSampleBody", fn := fun _ => fun
  | [] => { results := [.lit (.bool true)], args := [] }
  | _ => none }
def fnExactSampleBodyRow : OpenClaim := { program := "ytnghfocboodkhaa", sum := "a11332439c18c52259feaec62252aa43cf22fe580140ad4057510cf56934ba17", func := "loop.example/g03306/laws.FnExactSampleBody", spec := "fnExactSampleBody", apart := false }
def FnExactSampleBodySaid : Prop := fnExactSampleBodyRow.holds Try.pinned (OpenSpec.ofChange fnExactSampleBodySpec)

/-- ITS FALSE NEIGHBOUR: 'it returns false'. Refute it at one input. -/
def fnExactSampleBodyWrong : ChangeSpec := { name := "fnExactSampleBody", fn := fun _ => fun
  | [] => { results := [.lit (.bool false)], args := [] }
  | _ => none }
def FnExactSampleBodyWrongFalsely : Prop := fnExactSampleBodyRow.holds Try.pinned (OpenSpec.ofChange fnExactSampleBodyWrong)

/-- 'laws.FnExactBodyOk': WHATEVER THE INPUT: true; the input reads as it did. -/
def fnExactBodyOkSpec : ChangeSpec := { name := "fnExactBodyOk", fn := fun _ => fun
  | [d] => { results := [.lit (.bool true)], args := [d] }
  | _ => none }
def fnExactBodyOkRow : OpenClaim := { program := "ytnghfocboodkhaa", sum := "a11332439c18c52259feaec62252aa43cf22fe580140ad4057510cf56934ba17", func := "loop.example/g03306/laws.FnExactBodyOk", spec := "fnExactBodyOk", apart := false }
def FnExactBodyOkSaid : Prop := fnExactBodyOkRow.holds Try.pinned (OpenSpec.ofChange fnExactBodyOkSpec)

/-- ITS FALSE NEIGHBOUR: 'it returns false'. Refute it at one input. -/
def fnExactBodyOkWrong : ChangeSpec := { name := "fnExactBodyOk", fn := fun _ => fun
  | [d] => { results := [.lit (.bool false)], args := [d] }
  | _ => none }
def FnExactBodyOkWrongFalsely : Prop := fnExactBodyOkRow.holds Try.pinned (OpenSpec.ofChange fnExactBodyOkWrong)

/-- 'laws.FnExactLengthOf': WHATEVER THE INPUT: true; the input reads as it did. -/
def fnExactLengthOfSpec : ChangeSpec := { name := "fnExactLengthOf", fn := fun _ => fun
  | [d] => { results := [.lit (.bool true)], args := [d] }
  | _ => none }
def fnExactLengthOfRow : OpenClaim := { program := "ytnghfocboodkhaa", sum := "a11332439c18c52259feaec62252aa43cf22fe580140ad4057510cf56934ba17", func := "loop.example/g03306/laws.FnExactLengthOf", spec := "fnExactLengthOf", apart := false }
def FnExactLengthOfSaid : Prop := fnExactLengthOfRow.holds Try.pinned (OpenSpec.ofChange fnExactLengthOfSpec)

/-- ITS FALSE NEIGHBOUR: 'it returns false'. Refute it at one input. -/
def fnExactLengthOfWrong : ChangeSpec := { name := "fnExactLengthOf", fn := fun _ => fun
  | [d] => { results := [.lit (.bool false)], args := [d] }
  | _ => none }
def FnExactLengthOfWrongFalsely : Prop := fnExactLengthOfRow.holds Try.pinned (OpenSpec.ofChange fnExactLengthOfWrong)

/-- 'laws.FnExactDistanceOf': WHATEVER THE INPUT: true; the input reads as it did. -/
def fnExactDistanceOfSpec : ChangeSpec := { name := "fnExactDistanceOf", fn := fun _ => fun
  | [d1, d2, d3] => { results := [.lit (.bool true)], args := [d1, d2, d3] }
  | _ => none }
def fnExactDistanceOfRow : OpenClaim := { program := "ytnghfocboodkhaa", sum := "a11332439c18c52259feaec62252aa43cf22fe580140ad4057510cf56934ba17", func := "loop.example/g03306/laws.FnExactDistanceOf", spec := "fnExactDistanceOf", recurses := true, apart := false }
def FnExactDistanceOfSaid : Prop := fnExactDistanceOfRow.holds Try.pinned (OpenSpec.ofChange fnExactDistanceOfSpec)

/-- ITS FALSE NEIGHBOUR: 'it returns false'. Refute it at one input. -/
def fnExactDistanceOfWrong : ChangeSpec := { name := "fnExactDistanceOf", fn := fun _ => fun
  | [d1, d2, d3] => { results := [.lit (.bool false)], args := [d1, d2, d3] }
  | _ => none }
def FnExactDistanceOfWrongFalsely : Prop := fnExactDistanceOfRow.holds Try.pinned (OpenSpec.ofChange fnExactDistanceOfWrong)

/-- 'laws.FnExactLimbsAt': WHATEVER THE INPUT: true; the input reads as it did. -/
def fnExactLimbsAtSpec : ChangeSpec := { name := "fnExactLimbsAt", fn := fun _ => fun
  | [d1, d2] => { results := [.lit (.bool true)], args := [d1, d2] }
  | _ => none }
def fnExactLimbsAtRow : OpenClaim := { program := "ytnghfocboodkhaa", sum := "a11332439c18c52259feaec62252aa43cf22fe580140ad4057510cf56934ba17", func := "loop.example/g03306/laws.FnExactLimbsAt", spec := "fnExactLimbsAt", apart := false }
def FnExactLimbsAtSaid : Prop := fnExactLimbsAtRow.holds Try.pinned (OpenSpec.ofChange fnExactLimbsAtSpec)

/-- ITS FALSE NEIGHBOUR: 'it returns false'. Refute it at one input. -/
def fnExactLimbsAtWrong : ChangeSpec := { name := "fnExactLimbsAt", fn := fun _ => fun
  | [d1, d2] => { results := [.lit (.bool false)], args := [d1, d2] }
  | _ => none }
def FnExactLimbsAtWrongFalsely : Prop := fnExactLimbsAtRow.holds Try.pinned (OpenSpec.ofChange fnExactLimbsAtWrong)

/-- 'laws.FnExactEndsOf': WHATEVER THE INPUT: true; the input reads as it did. -/
def fnExactEndsOfSpec : ChangeSpec := { name := "fnExactEndsOf", fn := fun _ => fun
  | [d] => { results := [.lit (.bool true)], args := [d] }
  | _ => none }
def fnExactEndsOfRow : OpenClaim := { program := "ytnghfocboodkhaa", sum := "a11332439c18c52259feaec62252aa43cf22fe580140ad4057510cf56934ba17", func := "loop.example/g03306/laws.FnExactEndsOf", spec := "fnExactEndsOf", apart := false }
def FnExactEndsOfSaid : Prop := fnExactEndsOfRow.holds Try.pinned (OpenSpec.ofChange fnExactEndsOfSpec)

/-- ITS FALSE NEIGHBOUR: 'it returns false'. Refute it at one input. -/
def fnExactEndsOfWrong : ChangeSpec := { name := "fnExactEndsOf", fn := fun _ => fun
  | [d] => { results := [.lit (.bool false)], args := [d] }
  | _ => none }
def FnExactEndsOfWrongFalsely : Prop := fnExactEndsOfRow.holds Try.pinned (OpenSpec.ofChange fnExactEndsOfWrong)

/-- 'laws.FnExactAreSameShape': WHATEVER THE INPUT: true; the input reads as it did. -/
def fnExactAreSameShapeSpec : ChangeSpec := { name := "fnExactAreSameShape", fn := fun _ => fun
  | [d1, d2] => { results := [.lit (.bool true)], args := [d1, d2] }
  | _ => none }
def fnExactAreSameShapeRow : OpenClaim := { program := "ytnghfocboodkhaa", sum := "a11332439c18c52259feaec62252aa43cf22fe580140ad4057510cf56934ba17", func := "loop.example/g03306/laws.FnExactAreSameShape", spec := "fnExactAreSameShape", recurses := true, apart := false }
def FnExactAreSameShapeSaid : Prop := fnExactAreSameShapeRow.holds Try.pinned (OpenSpec.ofChange fnExactAreSameShapeSpec)

/-- ITS FALSE NEIGHBOUR: 'it returns false'. Refute it at one input. -/
def fnExactAreSameShapeWrong : ChangeSpec := { name := "fnExactAreSameShape", fn := fun _ => fun
  | [d1, d2] => { results := [.lit (.bool false)], args := [d1, d2] }
  | _ => none }
def FnExactAreSameShapeWrongFalsely : Prop := fnExactAreSameShapeRow.holds Try.pinned (OpenSpec.ofChange fnExactAreSameShapeWrong)

/-- 'laws.FnExactSpanOf': WHATEVER THE INPUT: true; the input reads as it did. -/
def fnExactSpanOfSpec : ChangeSpec := { name := "fnExactSpanOf", fn := fun _ => fun
  | [d] => { results := [.lit (.bool true)], args := [d] }
  | _ => none }
def fnExactSpanOfRow : OpenClaim := { program := "ytnghfocboodkhaa", sum := "a11332439c18c52259feaec62252aa43cf22fe580140ad4057510cf56934ba17", func := "loop.example/g03306/laws.FnExactSpanOf", spec := "fnExactSpanOf", recurses := true, apart := false }
def FnExactSpanOfSaid : Prop := fnExactSpanOfRow.holds Try.pinned (OpenSpec.ofChange fnExactSpanOfSpec)

/-- ITS FALSE NEIGHBOUR: 'it returns false'. Refute it at one input. -/
def fnExactSpanOfWrong : ChangeSpec := { name := "fnExactSpanOf", fn := fun _ => fun
  | [d] => { results := [.lit (.bool false)], args := [d] }
  | _ => none }
def FnExactSpanOfWrongFalsely : Prop := fnExactSpanOfRow.holds Try.pinned (OpenSpec.ofChange fnExactSpanOfWrong)

/-- 'laws.FnExactCenterOf': WHATEVER THE INPUT: true; the input reads as it did. -/
def fnExactCenterOfSpec : ChangeSpec := { name := "fnExactCenterOf", fn := fun _ => fun
  | [d] => { results := [.lit (.bool true)], args := [d] }
  | _ => none }
def fnExactCenterOfRow : OpenClaim := { program := "ytnghfocboodkhaa", sum := "a11332439c18c52259feaec62252aa43cf22fe580140ad4057510cf56934ba17", func := "loop.example/g03306/laws.FnExactCenterOf", spec := "fnExactCenterOf", recurses := true, apart := false }
def FnExactCenterOfSaid : Prop := fnExactCenterOfRow.holds Try.pinned (OpenSpec.ofChange fnExactCenterOfSpec)

/-- ITS FALSE NEIGHBOUR: 'it returns false'. Refute it at one input. -/
def fnExactCenterOfWrong : ChangeSpec := { name := "fnExactCenterOf", fn := fun _ => fun
  | [d] => { results := [.lit (.bool false)], args := [d] }
  | _ => none }
def FnExactCenterOfWrongFalsely : Prop := fnExactCenterOfRow.holds Try.pinned (OpenSpec.ofChange fnExactCenterOfWrong)

/-- 'laws.FnExactPathBetween': WHATEVER THE INPUT: true; the input reads as it did. -/
def fnExactPathBetweenSpec : ChangeSpec := { name := "fnExactPathBetween", fn := fun _ => fun
  | [d1, d2, d3] => { results := [.lit (.bool true)], args := [d1, d2, d3] }
  | _ => none }
def fnExactPathBetweenRow : OpenClaim := { program := "ytnghfocboodkhaa", sum := "a11332439c18c52259feaec62252aa43cf22fe580140ad4057510cf56934ba17", func := "loop.example/g03306/laws.FnExactPathBetween", spec := "fnExactPathBetween", recurses := true, apart := false }
def FnExactPathBetweenSaid : Prop := fnExactPathBetweenRow.holds Try.pinned (OpenSpec.ofChange fnExactPathBetweenSpec)

/-- ITS FALSE NEIGHBOUR: 'it returns false'. Refute it at one input. -/
def fnExactPathBetweenWrong : ChangeSpec := { name := "fnExactPathBetween", fn := fun _ => fun
  | [d1, d2, d3] => { results := [.lit (.bool false)], args := [d1, d2, d3] }
  | _ => none }
def FnExactPathBetweenWrongFalsely : Prop := fnExactPathBetweenRow.holds Try.pinned (OpenSpec.ofChange fnExactPathBetweenWrong)

/-- 'laws.FnExactDistancesFrom': WHATEVER THE INPUT: true; the input reads as it did. -/
def fnExactDistancesFromSpec : ChangeSpec := { name := "fnExactDistancesFrom", fn := fun _ => fun
  | [d1, d2] => { results := [.lit (.bool true)], args := [d1, d2] }
  | _ => none }
def fnExactDistancesFromRow : OpenClaim := { program := "ytnghfocboodkhaa", sum := "a11332439c18c52259feaec62252aa43cf22fe580140ad4057510cf56934ba17", func := "loop.example/g03306/laws.FnExactDistancesFrom", spec := "fnExactDistancesFrom", recurses := true, apart := false }
def FnExactDistancesFromSaid : Prop := fnExactDistancesFromRow.holds Try.pinned (OpenSpec.ofChange fnExactDistancesFromSpec)

/-- ITS FALSE NEIGHBOUR: 'it returns false'. Refute it at one input. -/
def fnExactDistancesFromWrong : ChangeSpec := { name := "fnExactDistancesFrom", fn := fun _ => fun
  | [d1, d2] => { results := [.lit (.bool false)], args := [d1, d2] }
  | _ => none }
def FnExactDistancesFromWrongFalsely : Prop := fnExactDistancesFromRow.holds Try.pinned (OpenSpec.ofChange fnExactDistancesFromWrong)

/-- 'laws.FnDistances': WHATEVER THE INPUT: true; the input reads as it did. -/
def fnDistancesSpec : ChangeSpec := { name := "fnDistances", fn := fun _ => fun
  | [d] => { results := [.lit (.bool true)], args := [d] }
  | _ => none }
def fnDistancesRow : OpenClaim := { program := "ytnghfocboodkhaa", sum := "a11332439c18c52259feaec62252aa43cf22fe580140ad4057510cf56934ba17", func := "loop.example/g03306/laws.FnDistances", spec := "fnDistances", apart := false }
def FnDistancesSaid : Prop := fnDistancesRow.holds Try.pinned (OpenSpec.ofChange fnDistancesSpec)

/-- ITS FALSE NEIGHBOUR: 'it returns false'. Refute it at one input. -/
def fnDistancesWrong : ChangeSpec := { name := "fnDistances", fn := fun _ => fun
  | [d] => { results := [.lit (.bool false)], args := [d] }
  | _ => none }
def FnDistancesWrongFalsely : Prop := fnDistancesRow.holds Try.pinned (OpenSpec.ofChange fnDistancesWrong)

/- THE SECOND FORM. 'bulk': how many values and letters a reading holds, each counted each time it is reached (what is shared counts as often as it is met; a slice's spare places count too). A statement '..UptoSaid' is the law's where the arguments, and the package variables that the reading takes, are together of bulk at most 1048576: NARROWER than '..Said'. Prove '..Said' where nothing that the law and all that it calls make is longer than what came in: it says more and counts as full. Else prove '..UptoSaid'. A law counts once. -/
mutual
def uptoBulk {H : Type} : DataW H → Nat
  | .lit (.string bytes) => bytes.length + 1
  | .lit _ => 1
  | .nil => 1
  | .ptr d => uptoBulk d + 1
  | .slice elems spare => uptoBulkAll elems + uptoBulkAll spare + 1
  | .agg parts => uptoBulkAll parts + 1
  | .iface _ d => uptoBulk d + 1
  | .map entries => uptoBulkEntries entries + 1
  | .held _ => 1
def uptoBulkAll {H : Type} : List (DataW H) → Nat
  | [] => 0
  | d :: r => uptoBulk d + uptoBulkAll r
def uptoBulkEntries {H : Type} : List (Lit × DataW H) → Nat
  | [] => 0
  | x :: r => uptoBulkEntry x + uptoBulkEntries r
def uptoBulkEntry {H : Type} : Lit × DataW H → Nat
  | (.string bytes, d) => bytes.length + uptoBulk d + 1
  | (_, d) => uptoBulk d + 1
 end
def uptoSmall : (H : Type) → List (DataW H) → Bool := fun _ ds => decide (uptoBulkAll ds ≤ 1048576)
def OpenSpec.upto (s : _root_.Go.ChangeSpec) : _root_.Go.OpenSpec := { _root_.Go.OpenSpec.ofChange s with cond := some uptoSmall }

/-- 'laws.FnExactSampleBody', WHERE WHAT IT READS IS OF BULK AT MOST 1048576: true; the input reads as it did. -/
def fnExactSampleBodyUptoRow : OpenClaim := { program := "ytnghfocboodkhaa", sum := "a11332439c18c52259feaec62252aa43cf22fe580140ad4057510cf56934ba17", func := "loop.example/g03306/laws.FnExactSampleBody", spec := "fnExactSampleBody", apart := false, narrowed := true }
def FnExactSampleBodyUptoSaid : Prop := fnExactSampleBodyUptoRow.holds Try.pinned (OpenSpec.upto fnExactSampleBodySpec)

/-- 'laws.FnExactBodyOk', WHERE WHAT IT READS IS OF BULK AT MOST 1048576: true; the input reads as it did. -/
def fnExactBodyOkUptoRow : OpenClaim := { program := "ytnghfocboodkhaa", sum := "a11332439c18c52259feaec62252aa43cf22fe580140ad4057510cf56934ba17", func := "loop.example/g03306/laws.FnExactBodyOk", spec := "fnExactBodyOk", apart := false, narrowed := true }
def FnExactBodyOkUptoSaid : Prop := fnExactBodyOkUptoRow.holds Try.pinned (OpenSpec.upto fnExactBodyOkSpec)

/-- 'laws.FnExactLengthOf', WHERE WHAT IT READS IS OF BULK AT MOST 1048576: true; the input reads as it did. -/
def fnExactLengthOfUptoRow : OpenClaim := { program := "ytnghfocboodkhaa", sum := "a11332439c18c52259feaec62252aa43cf22fe580140ad4057510cf56934ba17", func := "loop.example/g03306/laws.FnExactLengthOf", spec := "fnExactLengthOf", apart := false, narrowed := true }
def FnExactLengthOfUptoSaid : Prop := fnExactLengthOfUptoRow.holds Try.pinned (OpenSpec.upto fnExactLengthOfSpec)

/-- 'laws.FnExactDistanceOf', WHERE WHAT IT READS IS OF BULK AT MOST 1048576: true; the input reads as it did. -/
def fnExactDistanceOfUptoRow : OpenClaim := { program := "ytnghfocboodkhaa", sum := "a11332439c18c52259feaec62252aa43cf22fe580140ad4057510cf56934ba17", func := "loop.example/g03306/laws.FnExactDistanceOf", spec := "fnExactDistanceOf", recurses := true, apart := false, narrowed := true }
def FnExactDistanceOfUptoSaid : Prop := fnExactDistanceOfUptoRow.holds Try.pinned (OpenSpec.upto fnExactDistanceOfSpec)

/-- 'laws.FnExactLimbsAt', WHERE WHAT IT READS IS OF BULK AT MOST 1048576: true; the input reads as it did. -/
def fnExactLimbsAtUptoRow : OpenClaim := { program := "ytnghfocboodkhaa", sum := "a11332439c18c52259feaec62252aa43cf22fe580140ad4057510cf56934ba17", func := "loop.example/g03306/laws.FnExactLimbsAt", spec := "fnExactLimbsAt", apart := false, narrowed := true }
def FnExactLimbsAtUptoSaid : Prop := fnExactLimbsAtUptoRow.holds Try.pinned (OpenSpec.upto fnExactLimbsAtSpec)

/-- 'laws.FnExactEndsOf', WHERE WHAT IT READS IS OF BULK AT MOST 1048576: true; the input reads as it did. -/
def fnExactEndsOfUptoRow : OpenClaim := { program := "ytnghfocboodkhaa", sum := "a11332439c18c52259feaec62252aa43cf22fe580140ad4057510cf56934ba17", func := "loop.example/g03306/laws.FnExactEndsOf", spec := "fnExactEndsOf", apart := false, narrowed := true }
def FnExactEndsOfUptoSaid : Prop := fnExactEndsOfUptoRow.holds Try.pinned (OpenSpec.upto fnExactEndsOfSpec)

/-- 'laws.FnExactAreSameShape', WHERE WHAT IT READS IS OF BULK AT MOST 1048576: true; the input reads as it did. -/
def fnExactAreSameShapeUptoRow : OpenClaim := { program := "ytnghfocboodkhaa", sum := "a11332439c18c52259feaec62252aa43cf22fe580140ad4057510cf56934ba17", func := "loop.example/g03306/laws.FnExactAreSameShape", spec := "fnExactAreSameShape", recurses := true, apart := false, narrowed := true }
def FnExactAreSameShapeUptoSaid : Prop := fnExactAreSameShapeUptoRow.holds Try.pinned (OpenSpec.upto fnExactAreSameShapeSpec)

/-- 'laws.FnExactSpanOf', WHERE WHAT IT READS IS OF BULK AT MOST 1048576: true; the input reads as it did. -/
def fnExactSpanOfUptoRow : OpenClaim := { program := "ytnghfocboodkhaa", sum := "a11332439c18c52259feaec62252aa43cf22fe580140ad4057510cf56934ba17", func := "loop.example/g03306/laws.FnExactSpanOf", spec := "fnExactSpanOf", recurses := true, apart := false, narrowed := true }
def FnExactSpanOfUptoSaid : Prop := fnExactSpanOfUptoRow.holds Try.pinned (OpenSpec.upto fnExactSpanOfSpec)

/-- 'laws.FnExactCenterOf', WHERE WHAT IT READS IS OF BULK AT MOST 1048576: true; the input reads as it did. -/
def fnExactCenterOfUptoRow : OpenClaim := { program := "ytnghfocboodkhaa", sum := "a11332439c18c52259feaec62252aa43cf22fe580140ad4057510cf56934ba17", func := "loop.example/g03306/laws.FnExactCenterOf", spec := "fnExactCenterOf", recurses := true, apart := false, narrowed := true }
def FnExactCenterOfUptoSaid : Prop := fnExactCenterOfUptoRow.holds Try.pinned (OpenSpec.upto fnExactCenterOfSpec)

/-- 'laws.FnExactPathBetween', WHERE WHAT IT READS IS OF BULK AT MOST 1048576: true; the input reads as it did. -/
def fnExactPathBetweenUptoRow : OpenClaim := { program := "ytnghfocboodkhaa", sum := "a11332439c18c52259feaec62252aa43cf22fe580140ad4057510cf56934ba17", func := "loop.example/g03306/laws.FnExactPathBetween", spec := "fnExactPathBetween", recurses := true, apart := false, narrowed := true }
def FnExactPathBetweenUptoSaid : Prop := fnExactPathBetweenUptoRow.holds Try.pinned (OpenSpec.upto fnExactPathBetweenSpec)

/-- 'laws.FnExactDistancesFrom', WHERE WHAT IT READS IS OF BULK AT MOST 1048576: true; the input reads as it did. -/
def fnExactDistancesFromUptoRow : OpenClaim := { program := "ytnghfocboodkhaa", sum := "a11332439c18c52259feaec62252aa43cf22fe580140ad4057510cf56934ba17", func := "loop.example/g03306/laws.FnExactDistancesFrom", spec := "fnExactDistancesFrom", recurses := true, apart := false, narrowed := true }
def FnExactDistancesFromUptoSaid : Prop := fnExactDistancesFromUptoRow.holds Try.pinned (OpenSpec.upto fnExactDistancesFromSpec)

/-- 'laws.FnDistances', WHERE WHAT IT READS IS OF BULK AT MOST 1048576: true; the input reads as it did. -/
def fnDistancesUptoRow : OpenClaim := { program := "ytnghfocboodkhaa", sum := "a11332439c18c52259feaec62252aa43cf22fe580140ad4057510cf56934ba17", func := "loop.example/g03306/laws.FnDistances", spec := "fnDistances", apart := false, narrowed := true }
def FnDistancesUptoSaid : Prop := fnDistancesUptoRow.holds Try.pinned (OpenSpec.upto fnDistancesSpec)

end Rows
end Go.Proofs.Ytnghfocboodkhaa
