/-
  NARROWER THAN 'FOR EVERY INPUT', by the rows' own cells (each row's printed sentence says how): DiffPaths: loops · DiffMends: loops · DiffNone: loops · DiffOne: loops.
  DERIVED. THE GIVEN ROWS OF THIS SEAT. 5 by the template 'for every input the law returns true; each argument reads behind the call as it read before'; 0 by the template 'total and deterministic' (their statements: YtbhgocpenbibgaaTotals.lean).
  GIVEN WITH THE SEED: the statements are not yours to turn. If you find one false, say at which input.
  Laid BY PROGRAM, IN A SANDBOX (cutbox-rows.mjs): the forced cells as the released guide's own fill.sh prints them over the translation d8162e57a62fd771… (all of the seat's roots in one cut). By AI agents, Wed Nov 11 2026. No macro, syntax, notation, axiom, sorry.
-/
import Derived.Test.YtbhgocpenbibgaaChecked
import GoSem.Claim
import GoSem.ClaimJoined
import GoSem.ClaimMapViews
import Derived.JoinedTies
import Derived.KernelRfl
namespace Go.Proofs.Ytbhgocpenbibgaa
/- THE CELL 'sum', in the pinned program and in every row, IS THE sha256 OF THE DUMP (.gsa) THAT YtbhgocpenbibgaaProg.lean LOADS. Nothing in Lean hashes anything: it is a label: what it is worth is what the hold of that sum in a sandbox is worth. -/
noncomputable def Try.pinned : Pinned := { name := "ytbhgocpenbibgaa", sum := "d8162e57a62fd7715c72213e301b8a7e6302f946b215ec27f631ddde37eed2fa", checked := Try.checked }
namespace Rows
def none {H : Type} : Left H := { results := [], args := [] }

/-- 'cadencelaw13.DiffPaths': WHATEVER THE INPUT: true; the input reads as it did. -/
def diffPathsSpec : ChangeSpec := { name := "diffPaths", fn := fun _ => fun
  | [d1, d2, d3] => { results := [.lit (.bool true)], args := [d1, d2, d3] }
  | _ => none }
def diffPathsRow : OpenClaim := { program := "ytbhgocpenbibgaa", sum := "d8162e57a62fd7715c72213e301b8a7e6302f946b215ec27f631ddde37eed2fa", func := "cadence/cadencelaw13.DiffPaths", spec := "diffPaths", inPlace := ["internal/bytealg.abigen_runtime_cmpstring"], unfollowed := true, recurses := true, loops := true, apart := false }
def DiffPathsSaid : Prop := diffPathsRow.holds Try.pinned (OpenSpec.ofChange diffPathsSpec)

/-- ITS FALSE NEIGHBOUR: 'it returns false'. Refute it at one input. -/
def diffPathsWrong : ChangeSpec := { name := "diffPaths", fn := fun _ => fun
  | [d1, d2, d3] => { results := [.lit (.bool false)], args := [d1, d2, d3] }
  | _ => none }
def DiffPathsWrongFalsely : Prop := diffPathsRow.holds Try.pinned (OpenSpec.ofChange diffPathsWrong)

/-- 'cadencelaw13.DiffMends': WHATEVER THE INPUT: true; the input reads as it did. -/
def diffMendsSpec : ChangeSpec := { name := "diffMends", fn := fun _ => fun
  | [d1, d2] => { results := [.lit (.bool true)], args := [d1, d2] }
  | _ => none }
def diffMendsRow : OpenClaim := { program := "ytbhgocpenbibgaa", sum := "d8162e57a62fd7715c72213e301b8a7e6302f946b215ec27f631ddde37eed2fa", func := "cadence/cadencelaw13.DiffMends", spec := "diffMends", inPlace := ["internal/bytealg.abigen_runtime_cmpstring"], unfollowed := true, recurses := true, loops := true, apart := false }
def DiffMendsSaid : Prop := diffMendsRow.holds Try.pinned (OpenSpec.ofChange diffMendsSpec)

/-- ITS FALSE NEIGHBOUR: 'it returns false'. Refute it at one input. -/
def diffMendsWrong : ChangeSpec := { name := "diffMends", fn := fun _ => fun
  | [d1, d2] => { results := [.lit (.bool false)], args := [d1, d2] }
  | _ => none }
def DiffMendsWrongFalsely : Prop := diffMendsRow.holds Try.pinned (OpenSpec.ofChange diffMendsWrong)

/-- 'cadencelaw13.DiffNone': WHATEVER THE INPUT: true; the input reads as it did. -/
def diffNoneSpec : ChangeSpec := { name := "diffNone", fn := fun _ => fun
  | [d1, d2] => { results := [.lit (.bool true)], args := [d1, d2] }
  | _ => none }
def diffNoneRow : OpenClaim := { program := "ytbhgocpenbibgaa", sum := "d8162e57a62fd7715c72213e301b8a7e6302f946b215ec27f631ddde37eed2fa", func := "cadence/cadencelaw13.DiffNone", spec := "diffNone", inPlace := ["internal/bytealg.abigen_runtime_cmpstring"], unfollowed := true, recurses := true, loops := true, apart := false }
def DiffNoneSaid : Prop := diffNoneRow.holds Try.pinned (OpenSpec.ofChange diffNoneSpec)

/-- ITS FALSE NEIGHBOUR: 'it returns false'. Refute it at one input. -/
def diffNoneWrong : ChangeSpec := { name := "diffNone", fn := fun _ => fun
  | [d1, d2] => { results := [.lit (.bool false)], args := [d1, d2] }
  | _ => none }
def DiffNoneWrongFalsely : Prop := diffNoneRow.holds Try.pinned (OpenSpec.ofChange diffNoneWrong)

/-- 'cadencelaw13.DiffFront': WHATEVER THE INPUT: true; the input reads as it did. -/
def diffFrontSpec : ChangeSpec := { name := "diffFront", fn := fun _ => fun
  | [d1, d2, d3] => { results := [.lit (.bool true)], args := [d1, d2, d3] }
  | _ => none }
def diffFrontRow : OpenClaim := { program := "ytbhgocpenbibgaa", sum := "d8162e57a62fd7715c72213e301b8a7e6302f946b215ec27f631ddde37eed2fa", func := "cadence/cadencelaw13.DiffFront", spec := "diffFront", inPlace := ["internal/bytealg.abigen_runtime_cmpstring"], unfollowed := true, recurses := true, apart := false }
def DiffFrontSaid : Prop := diffFrontRow.holds Try.pinned (OpenSpec.ofChange diffFrontSpec)

/-- ITS FALSE NEIGHBOUR: 'it returns false'. Refute it at one input. -/
def diffFrontWrong : ChangeSpec := { name := "diffFront", fn := fun _ => fun
  | [d1, d2, d3] => { results := [.lit (.bool false)], args := [d1, d2, d3] }
  | _ => none }
def DiffFrontWrongFalsely : Prop := diffFrontRow.holds Try.pinned (OpenSpec.ofChange diffFrontWrong)

/-- 'cadencelaw13.DiffOne': WHATEVER THE INPUT: true; the input reads as it did. -/
def diffOneSpec : ChangeSpec := { name := "diffOne", fn := fun _ => fun
  | [d1, d2, d3] => { results := [.lit (.bool true)], args := [d1, d2, d3] }
  | _ => none }
def diffOneRow : OpenClaim := { program := "ytbhgocpenbibgaa", sum := "d8162e57a62fd7715c72213e301b8a7e6302f946b215ec27f631ddde37eed2fa", func := "cadence/cadencelaw13.DiffOne", spec := "diffOne", inPlace := ["internal/bytealg.abigen_runtime_cmpstring"], unfollowed := true, recurses := true, loops := true, apart := false }
def DiffOneSaid : Prop := diffOneRow.holds Try.pinned (OpenSpec.ofChange diffOneSpec)

/-- ITS FALSE NEIGHBOUR: 'it returns false'. Refute it at one input. -/
def diffOneWrong : ChangeSpec := { name := "diffOne", fn := fun _ => fun
  | [d1, d2, d3] => { results := [.lit (.bool false)], args := [d1, d2, d3] }
  | _ => none }
def DiffOneWrongFalsely : Prop := diffOneRow.holds Try.pinned (OpenSpec.ofChange diffOneWrong)

/- THE SECOND FORM. 'bulk': how many values and letters a reading holds, each counted each time it is reached (what is shared counts as often as it is met; a slice's spare places count too). A statement '..UptoSaid' is the law's where the arguments, and the package variables that the reading takes, are together of bulk at most 1048576: NARROWER than '..Said'. Prove '..Said' where nothing that the law and all that it calls make is longer than what came in: it says more and counts as full. Else prove '..UptoSaid'. A law counts once. -/
mutual
def uptoBulk {H : Type} : DataW H → Nat
  | .lit (.string bytes) => bytes.length + 1
  | .lit _ => 1
  | .nil => 1
  | .ptr d => uptoBulk d + 1
  | .slice elems spare => uptoBulkAll elems + uptoBulkAll spare + 1
  | .agg parts => uptoBulkAll parts + 1
  | .iface _ d => uptoBulk d + 1
  | .map entries => uptoBulkEntries entries + 1
  | .held _ => 1
def uptoBulkAll {H : Type} : List (DataW H) → Nat
  | [] => 0
  | d :: r => uptoBulk d + uptoBulkAll r
def uptoBulkEntries {H : Type} : List (Lit × DataW H) → Nat
  | [] => 0
  | x :: r => uptoBulkEntry x + uptoBulkEntries r
def uptoBulkEntry {H : Type} : Lit × DataW H → Nat
  | (.string bytes, d) => bytes.length + uptoBulk d + 1
  | (_, d) => uptoBulk d + 1
 end
def uptoSmall : (H : Type) → List (DataW H) → Bool := fun _ ds => decide (uptoBulkAll ds ≤ 1048576)
def OpenSpec.upto (s : _root_.Go.ChangeSpec) : _root_.Go.OpenSpec := { _root_.Go.OpenSpec.ofChange s with cond := some uptoSmall }

/-- 'cadencelaw13.DiffPaths', WHERE WHAT IT READS IS OF BULK AT MOST 1048576: true; the input reads as it did. -/
def diffPathsUptoRow : OpenClaim := { program := "ytbhgocpenbibgaa", sum := "d8162e57a62fd7715c72213e301b8a7e6302f946b215ec27f631ddde37eed2fa", func := "cadence/cadencelaw13.DiffPaths", spec := "diffPaths", inPlace := ["internal/bytealg.abigen_runtime_cmpstring"], unfollowed := true, recurses := true, loops := true, apart := false, narrowed := true }
def DiffPathsUptoSaid : Prop := diffPathsUptoRow.holds Try.pinned (OpenSpec.upto diffPathsSpec)

/-- 'cadencelaw13.DiffMends', WHERE WHAT IT READS IS OF BULK AT MOST 1048576: true; the input reads as it did. -/
def diffMendsUptoRow : OpenClaim := { program := "ytbhgocpenbibgaa", sum := "d8162e57a62fd7715c72213e301b8a7e6302f946b215ec27f631ddde37eed2fa", func := "cadence/cadencelaw13.DiffMends", spec := "diffMends", inPlace := ["internal/bytealg.abigen_runtime_cmpstring"], unfollowed := true, recurses := true, loops := true, apart := false, narrowed := true }
def DiffMendsUptoSaid : Prop := diffMendsUptoRow.holds Try.pinned (OpenSpec.upto diffMendsSpec)

/-- 'cadencelaw13.DiffNone', WHERE WHAT IT READS IS OF BULK AT MOST 1048576: true; the input reads as it did. -/
def diffNoneUptoRow : OpenClaim := { program := "ytbhgocpenbibgaa", sum := "d8162e57a62fd7715c72213e301b8a7e6302f946b215ec27f631ddde37eed2fa", func := "cadence/cadencelaw13.DiffNone", spec := "diffNone", inPlace := ["internal/bytealg.abigen_runtime_cmpstring"], unfollowed := true, recurses := true, loops := true, apart := false, narrowed := true }
def DiffNoneUptoSaid : Prop := diffNoneUptoRow.holds Try.pinned (OpenSpec.upto diffNoneSpec)

/-- 'cadencelaw13.DiffFront', WHERE WHAT IT READS IS OF BULK AT MOST 1048576: true; the input reads as it did. -/
def diffFrontUptoRow : OpenClaim := { program := "ytbhgocpenbibgaa", sum := "d8162e57a62fd7715c72213e301b8a7e6302f946b215ec27f631ddde37eed2fa", func := "cadence/cadencelaw13.DiffFront", spec := "diffFront", inPlace := ["internal/bytealg.abigen_runtime_cmpstring"], unfollowed := true, recurses := true, apart := false, narrowed := true }
def DiffFrontUptoSaid : Prop := diffFrontUptoRow.holds Try.pinned (OpenSpec.upto diffFrontSpec)

/-- 'cadencelaw13.DiffOne', WHERE WHAT IT READS IS OF BULK AT MOST 1048576: true; the input reads as it did. -/
def diffOneUptoRow : OpenClaim := { program := "ytbhgocpenbibgaa", sum := "d8162e57a62fd7715c72213e301b8a7e6302f946b215ec27f631ddde37eed2fa", func := "cadence/cadencelaw13.DiffOne", spec := "diffOne", inPlace := ["internal/bytealg.abigen_runtime_cmpstring"], unfollowed := true, recurses := true, loops := true, apart := false, narrowed := true }
def DiffOneUptoSaid : Prop := diffOneUptoRow.holds Try.pinned (OpenSpec.upto diffOneSpec)

end Rows
end Go.Proofs.Ytbhgocpenbibgaa
