/-
  NARROWER THAN 'FOR EVERY INPUT', by the rows' own cells (each row's printed sentence says how): SchemaFits: loops · SchemaLevels: loops.
  DERIVED. THE GIVEN ROWS OF THIS SEAT. 5 by the template 'for every input the law returns true; each argument reads behind the call as it read before'; 0 by the template 'total and deterministic' (their statements: YtoihiehoolehiaaTotals.lean).
  GIVEN WITH THE SEED: the statements are not yours to turn. If you find one false, say at which input.
  Laid BY PROGRAM, IN A SANDBOX (cutbox-rows.mjs): the forced cells as the released guide's own fill.sh prints them over the translation 3eac73f1b78557cf… (all of the seat's roots in one cut). By AI agents, Wed Nov 11 2026. No macro, syntax, notation, axiom, sorry.
-/
import Derived.Test.YtoihiehoolehiaaChecked
import GoSem.Claim
import GoSem.ClaimJoined
import GoSem.ClaimMapViews
import Derived.JoinedTies
import Derived.KernelRfl
namespace Go.Proofs.Ytoihiehoolehiaa
/- THE CELL 'sum', in the pinned program and in every row, IS THE sha256 OF THE DUMP (.gsa) THAT YtoihiehoolehiaaProg.lean LOADS. Nothing in Lean hashes anything: it is a label: what it is worth is what the hold of that sum in a sandbox is worth. -/
noncomputable def Try.pinned : Pinned := { name := "ytoihiehoolehiaa", sum := "3eac73f1b78557cf1995e30c5b19ea5f2c25c67bad3de59458a37e2f8e05243b", checked := Try.checked }
namespace Rows
def none {H : Type} : Left H := { results := [], args := [] }

/-- 'cadencelaw4.SchemaChecks': WHATEVER THE INPUT: true; the input reads as it did. -/
def schemaChecksSpec : ChangeSpec := { name := "schemaChecks", fn := fun _ => fun
  | [d1, d2, d3, d4, d5] => { results := [.lit (.bool true)], args := [d1, d2, d3, d4, d5] }
  | _ => none }
def schemaChecksRow : OpenClaim := { program := "ytoihiehoolehiaa", sum := "3eac73f1b78557cf1995e30c5b19ea5f2c25c67bad3de59458a37e2f8e05243b", func := "cadence/cadencelaw4.SchemaChecks", spec := "schemaChecks", unfollowed := true, recurses := true, apart := false }
def SchemaChecksSaid : Prop := schemaChecksRow.holds Try.pinned (OpenSpec.ofChange schemaChecksSpec)

/-- ITS FALSE NEIGHBOUR: 'it returns false'. Refute it at one input. -/
def schemaChecksWrong : ChangeSpec := { name := "schemaChecks", fn := fun _ => fun
  | [d1, d2, d3, d4, d5] => { results := [.lit (.bool false)], args := [d1, d2, d3, d4, d5] }
  | _ => none }
def SchemaChecksWrongFalsely : Prop := schemaChecksRow.holds Try.pinned (OpenSpec.ofChange schemaChecksWrong)

/-- 'cadencelaw4.SchemaFits': WHATEVER THE INPUT: true; the input reads as it did. -/
def schemaFitsSpec : ChangeSpec := { name := "schemaFits", fn := fun _ => fun
  | [d1, d2, d3, d4] => { results := [.lit (.bool true)], args := [d1, d2, d3, d4] }
  | _ => none }
def schemaFitsRow : OpenClaim := { program := "ytoihiehoolehiaa", sum := "3eac73f1b78557cf1995e30c5b19ea5f2c25c67bad3de59458a37e2f8e05243b", func := "cadence/cadencelaw4.SchemaFits", spec := "schemaFits", unfollowed := true, recurses := true, loops := true, apart := false }
def SchemaFitsSaid : Prop := schemaFitsRow.holds Try.pinned (OpenSpec.ofChange schemaFitsSpec)

/-- ITS FALSE NEIGHBOUR: 'it returns false'. Refute it at one input. -/
def schemaFitsWrong : ChangeSpec := { name := "schemaFits", fn := fun _ => fun
  | [d1, d2, d3, d4] => { results := [.lit (.bool false)], args := [d1, d2, d3, d4] }
  | _ => none }
def SchemaFitsWrongFalsely : Prop := schemaFitsRow.holds Try.pinned (OpenSpec.ofChange schemaFitsWrong)

/-- 'cadencelaw4.SchemaKnown': WHATEVER THE INPUT: true; the input reads as it did. -/
def schemaKnownSpec : ChangeSpec := { name := "schemaKnown", fn := fun _ => fun
  | [d] => { results := [.lit (.bool true)], args := [d] }
  | _ => none }
def schemaKnownRow : OpenClaim := { program := "ytoihiehoolehiaa", sum := "3eac73f1b78557cf1995e30c5b19ea5f2c25c67bad3de59458a37e2f8e05243b", func := "cadence/cadencelaw4.SchemaKnown", spec := "schemaKnown", unfollowed := true, recurses := true, apart := false }
def SchemaKnownSaid : Prop := schemaKnownRow.holds Try.pinned (OpenSpec.ofChange schemaKnownSpec)

/-- ITS FALSE NEIGHBOUR: 'it returns false'. Refute it at one input. -/
def schemaKnownWrong : ChangeSpec := { name := "schemaKnown", fn := fun _ => fun
  | [d] => { results := [.lit (.bool false)], args := [d] }
  | _ => none }
def SchemaKnownWrongFalsely : Prop := schemaKnownRow.holds Try.pinned (OpenSpec.ofChange schemaKnownWrong)

/-- 'cadencelaw4.SchemaLevels': WHATEVER THE INPUT: true; the input reads as it did. -/
def schemaLevelsSpec : ChangeSpec := { name := "schemaLevels", fn := fun _ => fun
  | [d1, d2] => { results := [.lit (.bool true)], args := [d1, d2] }
  | _ => none }
def schemaLevelsRow : OpenClaim := { program := "ytoihiehoolehiaa", sum := "3eac73f1b78557cf1995e30c5b19ea5f2c25c67bad3de59458a37e2f8e05243b", func := "cadence/cadencelaw4.SchemaLevels", spec := "schemaLevels", unfollowed := true, recurses := true, loops := true, apart := false }
def SchemaLevelsSaid : Prop := schemaLevelsRow.holds Try.pinned (OpenSpec.ofChange schemaLevelsSpec)

/-- ITS FALSE NEIGHBOUR: 'it returns false'. Refute it at one input. -/
def schemaLevelsWrong : ChangeSpec := { name := "schemaLevels", fn := fun _ => fun
  | [d1, d2] => { results := [.lit (.bool false)], args := [d1, d2] }
  | _ => none }
def SchemaLevelsWrongFalsely : Prop := schemaLevelsRow.holds Try.pinned (OpenSpec.ofChange schemaLevelsWrong)

/-- 'cadencelaw4.SchemaMany': WHATEVER THE INPUT: true; the input reads as it did. -/
def schemaManySpec : ChangeSpec := { name := "schemaMany", fn := fun _ => fun
  | [d1, d2] => { results := [.lit (.bool true)], args := [d1, d2] }
  | _ => none }
def schemaManyRow : OpenClaim := { program := "ytoihiehoolehiaa", sum := "3eac73f1b78557cf1995e30c5b19ea5f2c25c67bad3de59458a37e2f8e05243b", func := "cadence/cadencelaw4.SchemaMany", spec := "schemaMany", unfollowed := true, recurses := true, apart := false }
def SchemaManySaid : Prop := schemaManyRow.holds Try.pinned (OpenSpec.ofChange schemaManySpec)

/-- ITS FALSE NEIGHBOUR: 'it returns false'. Refute it at one input. -/
def schemaManyWrong : ChangeSpec := { name := "schemaMany", fn := fun _ => fun
  | [d1, d2] => { results := [.lit (.bool false)], args := [d1, d2] }
  | _ => none }
def SchemaManyWrongFalsely : Prop := schemaManyRow.holds Try.pinned (OpenSpec.ofChange schemaManyWrong)

/- THE SECOND FORM. 'bulk': how many values and letters a reading holds, each counted each time it is reached (what is shared counts as often as it is met; a slice's spare places count too). A statement '..UptoSaid' is the law's where the arguments, and the package variables that the reading takes, are together of bulk at most 1048576: NARROWER than '..Said'. Prove '..Said' where nothing that the law and all that it calls make is longer than what came in: it says more and counts as full. Else prove '..UptoSaid'. A law counts once. -/
mutual
def uptoBulk {H : Type} : DataW H → Nat
  | .lit (.string bytes) => bytes.length + 1
  | .lit _ => 1
  | .nil => 1
  | .ptr d => uptoBulk d + 1
  | .slice elems spare => uptoBulkAll elems + uptoBulkAll spare + 1
  | .agg parts => uptoBulkAll parts + 1
  | .iface _ d => uptoBulk d + 1
  | .map entries => uptoBulkEntries entries + 1
  | .held _ => 1
def uptoBulkAll {H : Type} : List (DataW H) → Nat
  | [] => 0
  | d :: r => uptoBulk d + uptoBulkAll r
def uptoBulkEntries {H : Type} : List (Lit × DataW H) → Nat
  | [] => 0
  | x :: r => uptoBulkEntry x + uptoBulkEntries r
def uptoBulkEntry {H : Type} : Lit × DataW H → Nat
  | (.string bytes, d) => bytes.length + uptoBulk d + 1
  | (_, d) => uptoBulk d + 1
 end
def uptoSmall : (H : Type) → List (DataW H) → Bool := fun _ ds => decide (uptoBulkAll ds ≤ 1048576)
def OpenSpec.upto (s : _root_.Go.ChangeSpec) : _root_.Go.OpenSpec := { _root_.Go.OpenSpec.ofChange s with cond := some uptoSmall }

/-- 'cadencelaw4.SchemaChecks', WHERE WHAT IT READS IS OF BULK AT MOST 1048576: true; the input reads as it did. -/
def schemaChecksUptoRow : OpenClaim := { program := "ytoihiehoolehiaa", sum := "3eac73f1b78557cf1995e30c5b19ea5f2c25c67bad3de59458a37e2f8e05243b", func := "cadence/cadencelaw4.SchemaChecks", spec := "schemaChecks", unfollowed := true, recurses := true, apart := false, narrowed := true }
def SchemaChecksUptoSaid : Prop := schemaChecksUptoRow.holds Try.pinned (OpenSpec.upto schemaChecksSpec)

/-- 'cadencelaw4.SchemaFits', WHERE WHAT IT READS IS OF BULK AT MOST 1048576: true; the input reads as it did. -/
def schemaFitsUptoRow : OpenClaim := { program := "ytoihiehoolehiaa", sum := "3eac73f1b78557cf1995e30c5b19ea5f2c25c67bad3de59458a37e2f8e05243b", func := "cadence/cadencelaw4.SchemaFits", spec := "schemaFits", unfollowed := true, recurses := true, loops := true, apart := false, narrowed := true }
def SchemaFitsUptoSaid : Prop := schemaFitsUptoRow.holds Try.pinned (OpenSpec.upto schemaFitsSpec)

/-- 'cadencelaw4.SchemaKnown', WHERE WHAT IT READS IS OF BULK AT MOST 1048576: true; the input reads as it did. -/
def schemaKnownUptoRow : OpenClaim := { program := "ytoihiehoolehiaa", sum := "3eac73f1b78557cf1995e30c5b19ea5f2c25c67bad3de59458a37e2f8e05243b", func := "cadence/cadencelaw4.SchemaKnown", spec := "schemaKnown", unfollowed := true, recurses := true, apart := false, narrowed := true }
def SchemaKnownUptoSaid : Prop := schemaKnownUptoRow.holds Try.pinned (OpenSpec.upto schemaKnownSpec)

/-- 'cadencelaw4.SchemaLevels', WHERE WHAT IT READS IS OF BULK AT MOST 1048576: true; the input reads as it did. -/
def schemaLevelsUptoRow : OpenClaim := { program := "ytoihiehoolehiaa", sum := "3eac73f1b78557cf1995e30c5b19ea5f2c25c67bad3de59458a37e2f8e05243b", func := "cadence/cadencelaw4.SchemaLevels", spec := "schemaLevels", unfollowed := true, recurses := true, loops := true, apart := false, narrowed := true }
def SchemaLevelsUptoSaid : Prop := schemaLevelsUptoRow.holds Try.pinned (OpenSpec.upto schemaLevelsSpec)

/-- 'cadencelaw4.SchemaMany', WHERE WHAT IT READS IS OF BULK AT MOST 1048576: true; the input reads as it did. -/
def schemaManyUptoRow : OpenClaim := { program := "ytoihiehoolehiaa", sum := "3eac73f1b78557cf1995e30c5b19ea5f2c25c67bad3de59458a37e2f8e05243b", func := "cadence/cadencelaw4.SchemaMany", spec := "schemaMany", unfollowed := true, recurses := true, apart := false, narrowed := true }
def SchemaManyUptoSaid : Prop := schemaManyUptoRow.holds Try.pinned (OpenSpec.upto schemaManySpec)

end Rows
end Go.Proofs.Ytoihiehoolehiaa
