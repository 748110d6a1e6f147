/-
  NARROWER THAN 'FOR EVERY INPUT', by the rows' own cells (each row's printed sentence says how): NamesOf: loops.
  DERIVED. THE GIVEN ROWS OF THIS SEAT. 5 by the template 'for every input the law returns true; each argument reads behind the call as it read before'; 0 by the template 'total and deterministic' (their statements: YtbjkfllghkcgcaaTotals.lean).
  GIVEN WITH THE SEED: the statements are not yours to turn. If you find one false, say at which input.
  Laid BY PROGRAM, IN A SANDBOX (cutbox-rows.mjs): the forced cells as the released guide's own fill.sh prints them over the translation 38e4076a8eaad51b… (all of the seat's roots in one cut). By AI agents, Wed Nov 11 2026. No macro, syntax, notation, axiom, sorry.
-/
import Derived.Test.YtbjkfllghkcgcaaChecked
import GoSem.Claim
import GoSem.ClaimJoined
import GoSem.ClaimMapViews
import Derived.JoinedTies
import Derived.KernelRfl
namespace Go.Proofs.Ytbjkfllghkcgcaa
/- THE CELL 'sum', in the pinned program and in every row, IS THE sha256 OF THE DUMP (.gsa) THAT YtbjkfllghkcgcaaProg.lean LOADS. Nothing in Lean hashes anything: it is a label: what it is worth is what the hold of that sum in a sandbox is worth. -/
noncomputable def Try.pinned : Pinned := { name := "ytbjkfllghkcgcaa", sum := "38e4076a8eaad51b368f6c248dd8197684e9987ee68057dcdb0ff226086009c8", checked := Try.checked }
namespace Rows
def none {H : Type} : Left H := { results := [], args := [] }

/-- 'cadencelaw3.NamesOf': WHATEVER THE INPUT: true; the input reads as it did. -/
def namesOfSpec : ChangeSpec := { name := "namesOf", fn := fun _ => fun
  | [d1, d2] => { results := [.lit (.bool true)], args := [d1, d2] }
  | _ => none }
def namesOfRow : OpenClaim := { program := "ytbjkfllghkcgcaa", sum := "38e4076a8eaad51b368f6c248dd8197684e9987ee68057dcdb0ff226086009c8", func := "cadence/cadencelaw3.NamesOf", spec := "namesOf", recurses := true, loops := true, apart := false }
def NamesOfSaid : Prop := namesOfRow.holds Try.pinned (OpenSpec.ofChange namesOfSpec)

/-- ITS FALSE NEIGHBOUR: 'it returns false'. Refute it at one input. -/
def namesOfWrong : ChangeSpec := { name := "namesOf", fn := fun _ => fun
  | [d1, d2] => { results := [.lit (.bool false)], args := [d1, d2] }
  | _ => none }
def NamesOfWrongFalsely : Prop := namesOfRow.holds Try.pinned (OpenSpec.ofChange namesOfWrong)

/-- 'cadencelaw3.NamesOrder': WHATEVER THE INPUT: true; the input reads as it did. -/
def namesOrderSpec : ChangeSpec := { name := "namesOrder", fn := fun _ => fun
  | [d1, d2, d3] => { results := [.lit (.bool true)], args := [d1, d2, d3] }
  | _ => none }
def namesOrderRow : OpenClaim := { program := "ytbjkfllghkcgcaa", sum := "38e4076a8eaad51b368f6c248dd8197684e9987ee68057dcdb0ff226086009c8", func := "cadence/cadencelaw3.NamesOrder", spec := "namesOrder", recurses := true, apart := false }
def NamesOrderSaid : Prop := namesOrderRow.holds Try.pinned (OpenSpec.ofChange namesOrderSpec)

/-- ITS FALSE NEIGHBOUR: 'it returns false'. Refute it at one input. -/
def namesOrderWrong : ChangeSpec := { name := "namesOrder", fn := fun _ => fun
  | [d1, d2, d3] => { results := [.lit (.bool false)], args := [d1, d2, d3] }
  | _ => none }
def NamesOrderWrongFalsely : Prop := namesOrderRow.holds Try.pinned (OpenSpec.ofChange namesOrderWrong)

/-- 'cadencelaw3.NamesEnds': WHATEVER THE INPUT: true; the input reads as it did. -/
def namesEndsSpec : ChangeSpec := { name := "namesEnds", fn := fun _ => fun
  | [d] => { results := [.lit (.bool true)], args := [d] }
  | _ => none }
def namesEndsRow : OpenClaim := { program := "ytbjkfllghkcgcaa", sum := "38e4076a8eaad51b368f6c248dd8197684e9987ee68057dcdb0ff226086009c8", func := "cadence/cadencelaw3.NamesEnds", spec := "namesEnds", recurses := true, apart := false }
def NamesEndsSaid : Prop := namesEndsRow.holds Try.pinned (OpenSpec.ofChange namesEndsSpec)

/-- ITS FALSE NEIGHBOUR: 'it returns false'. Refute it at one input. -/
def namesEndsWrong : ChangeSpec := { name := "namesEnds", fn := fun _ => fun
  | [d] => { results := [.lit (.bool false)], args := [d] }
  | _ => none }
def NamesEndsWrongFalsely : Prop := namesEndsRow.holds Try.pinned (OpenSpec.ofChange namesEndsWrong)

/-- 'cadencelaw3.NamesAll': WHATEVER THE INPUT: true; the input reads as it did. -/
def namesAllSpec : ChangeSpec := { name := "namesAll", fn := fun _ => fun
  | [d1, d2, d3] => { results := [.lit (.bool true)], args := [d1, d2, d3] }
  | _ => none }
def namesAllRow : OpenClaim := { program := "ytbjkfllghkcgcaa", sum := "38e4076a8eaad51b368f6c248dd8197684e9987ee68057dcdb0ff226086009c8", func := "cadence/cadencelaw3.NamesAll", spec := "namesAll", recurses := true, apart := false }
def NamesAllSaid : Prop := namesAllRow.holds Try.pinned (OpenSpec.ofChange namesAllSpec)

/-- ITS FALSE NEIGHBOUR: 'it returns false'. Refute it at one input. -/
def namesAllWrong : ChangeSpec := { name := "namesAll", fn := fun _ => fun
  | [d1, d2, d3] => { results := [.lit (.bool false)], args := [d1, d2, d3] }
  | _ => none }
def NamesAllWrongFalsely : Prop := namesAllRow.holds Try.pinned (OpenSpec.ofChange namesAllWrong)

/-- 'cadencelaw3.NamesAlgebra': WHATEVER THE INPUT: true; the input reads as it did. -/
def namesAlgebraSpec : ChangeSpec := { name := "namesAlgebra", fn := fun _ => fun
  | [d1, d2, d3, d4] => { results := [.lit (.bool true)], args := [d1, d2, d3, d4] }
  | _ => none }
def namesAlgebraRow : OpenClaim := { program := "ytbjkfllghkcgcaa", sum := "38e4076a8eaad51b368f6c248dd8197684e9987ee68057dcdb0ff226086009c8", func := "cadence/cadencelaw3.NamesAlgebra", spec := "namesAlgebra", recurses := true, apart := false }
def NamesAlgebraSaid : Prop := namesAlgebraRow.holds Try.pinned (OpenSpec.ofChange namesAlgebraSpec)

/-- ITS FALSE NEIGHBOUR: 'it returns false'. Refute it at one input. -/
def namesAlgebraWrong : ChangeSpec := { name := "namesAlgebra", fn := fun _ => fun
  | [d1, d2, d3, d4] => { results := [.lit (.bool false)], args := [d1, d2, d3, d4] }
  | _ => none }
def NamesAlgebraWrongFalsely : Prop := namesAlgebraRow.holds Try.pinned (OpenSpec.ofChange namesAlgebraWrong)

/- THE SECOND FORM. 'bulk': how many values and letters a reading holds, each counted each time it is reached (what is shared counts as often as it is met; a slice's spare places count too). A statement '..UptoSaid' is the law's where the arguments, and the package variables that the reading takes, are together of bulk at most 1048576: NARROWER than '..Said'. Prove '..Said' where nothing that the law and all that it calls make is longer than what came in: it says more and counts as full. Else prove '..UptoSaid'. A law counts once. -/
mutual
def uptoBulk {H : Type} : DataW H → Nat
  | .lit (.string bytes) => bytes.length + 1
  | .lit _ => 1
  | .nil => 1
  | .ptr d => uptoBulk d + 1
  | .slice elems spare => uptoBulkAll elems + uptoBulkAll spare + 1
  | .agg parts => uptoBulkAll parts + 1
  | .iface _ d => uptoBulk d + 1
  | .map entries => uptoBulkEntries entries + 1
  | .held _ => 1
def uptoBulkAll {H : Type} : List (DataW H) → Nat
  | [] => 0
  | d :: r => uptoBulk d + uptoBulkAll r
def uptoBulkEntries {H : Type} : List (Lit × DataW H) → Nat
  | [] => 0
  | x :: r => uptoBulkEntry x + uptoBulkEntries r
def uptoBulkEntry {H : Type} : Lit × DataW H → Nat
  | (.string bytes, d) => bytes.length + uptoBulk d + 1
  | (_, d) => uptoBulk d + 1
 end
def uptoSmall : (H : Type) → List (DataW H) → Bool := fun _ ds => decide (uptoBulkAll ds ≤ 1048576)
def OpenSpec.upto (s : _root_.Go.ChangeSpec) : _root_.Go.OpenSpec := { _root_.Go.OpenSpec.ofChange s with cond := some uptoSmall }

/-- 'cadencelaw3.NamesOf', WHERE WHAT IT READS IS OF BULK AT MOST 1048576: true; the input reads as it did. -/
def namesOfUptoRow : OpenClaim := { program := "ytbjkfllghkcgcaa", sum := "38e4076a8eaad51b368f6c248dd8197684e9987ee68057dcdb0ff226086009c8", func := "cadence/cadencelaw3.NamesOf", spec := "namesOf", recurses := true, loops := true, apart := false, narrowed := true }
def NamesOfUptoSaid : Prop := namesOfUptoRow.holds Try.pinned (OpenSpec.upto namesOfSpec)

/-- 'cadencelaw3.NamesOrder', WHERE WHAT IT READS IS OF BULK AT MOST 1048576: true; the input reads as it did. -/
def namesOrderUptoRow : OpenClaim := { program := "ytbjkfllghkcgcaa", sum := "38e4076a8eaad51b368f6c248dd8197684e9987ee68057dcdb0ff226086009c8", func := "cadence/cadencelaw3.NamesOrder", spec := "namesOrder", recurses := true, apart := false, narrowed := true }
def NamesOrderUptoSaid : Prop := namesOrderUptoRow.holds Try.pinned (OpenSpec.upto namesOrderSpec)

/-- 'cadencelaw3.NamesEnds', WHERE WHAT IT READS IS OF BULK AT MOST 1048576: true; the input reads as it did. -/
def namesEndsUptoRow : OpenClaim := { program := "ytbjkfllghkcgcaa", sum := "38e4076a8eaad51b368f6c248dd8197684e9987ee68057dcdb0ff226086009c8", func := "cadence/cadencelaw3.NamesEnds", spec := "namesEnds", recurses := true, apart := false, narrowed := true }
def NamesEndsUptoSaid : Prop := namesEndsUptoRow.holds Try.pinned (OpenSpec.upto namesEndsSpec)

/-- 'cadencelaw3.NamesAll', WHERE WHAT IT READS IS OF BULK AT MOST 1048576: true; the input reads as it did. -/
def namesAllUptoRow : OpenClaim := { program := "ytbjkfllghkcgcaa", sum := "38e4076a8eaad51b368f6c248dd8197684e9987ee68057dcdb0ff226086009c8", func := "cadence/cadencelaw3.NamesAll", spec := "namesAll", recurses := true, apart := false, narrowed := true }
def NamesAllUptoSaid : Prop := namesAllUptoRow.holds Try.pinned (OpenSpec.upto namesAllSpec)

/-- 'cadencelaw3.NamesAlgebra', WHERE WHAT IT READS IS OF BULK AT MOST 1048576: true; the input reads as it did. -/
def namesAlgebraUptoRow : OpenClaim := { program := "ytbjkfllghkcgcaa", sum := "38e4076a8eaad51b368f6c248dd8197684e9987ee68057dcdb0ff226086009c8", func := "cadence/cadencelaw3.NamesAlgebra", spec := "namesAlgebra", recurses := true, apart := false, narrowed := true }
def NamesAlgebraUptoSaid : Prop := namesAlgebraUptoRow.holds Try.pinned (OpenSpec.upto namesAlgebraSpec)

end Rows
end Go.Proofs.Ytbjkfllghkcgcaa
