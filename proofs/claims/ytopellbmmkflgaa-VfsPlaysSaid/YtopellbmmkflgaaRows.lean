/-
  No cell of these rows narrows 'for every input' (looked for: loops, veiled, ifaces, maps, wideKeys, modest, calm, conditions, laid).
  DERIVED. THE GIVEN ROWS OF THIS SEAT. 7 by the template 'for every input the law returns true; each argument reads behind the call as it read before'; 0 by the template 'total and deterministic' (their statements: YtopellbmmkflgaaTotals.lean).
  GIVEN WITH THE SEED: the statements are not yours to turn. If you find one false, say at which input.
  Laid BY PROGRAM, IN A SANDBOX (cutbox-rows.mjs): the forced cells as the released guide's own fill.sh prints them over the translation 7a5af8c8da404154… (all of the seat's roots in one cut). By AI agents, Wed Nov 11 2026. No macro, syntax, notation, axiom, sorry.
-/
import Derived.Test.YtopellbmmkflgaaChecked
import GoSem.Claim
import GoSem.ClaimJoined
import GoSem.ClaimMapViews
import Derived.JoinedTies
import Derived.KernelRfl
namespace Go.Proofs.Ytopellbmmkflgaa
/- THE CELL 'sum', in the pinned program and in every row, IS THE sha256 OF THE DUMP (.gsa) THAT YtopellbmmkflgaaProg.lean LOADS. Nothing in Lean hashes anything: it is a label: what it is worth is what the hold of that sum in a sandbox is worth. -/
noncomputable def Try.pinned : Pinned := { name := "ytopellbmmkflgaa", sum := "7a5af8c8da404154b34f9e5be43473ba79026a930ffb251a79a1acf57c525c87", checked := Try.checked }
namespace Rows
def none {H : Type} : Left H := { results := [], args := [] }

/-- 'cadencelaw15.VfsRoom': WHATEVER THE INPUT: true; the input reads as it did. -/
def vfsRoomSpec : ChangeSpec := { name := "vfsRoom", fn := fun _ => fun
  | [d1, d2] => { results := [.lit (.bool true)], args := [d1, d2] }
  | _ => none }
def vfsRoomRow : OpenClaim := { program := "ytopellbmmkflgaa", sum := "7a5af8c8da404154b34f9e5be43473ba79026a930ffb251a79a1acf57c525c87", func := "cadence/cadencelaw15.VfsRoom", spec := "vfsRoom", inPlace := ["maps.clone"], unfollowed := true, recurses := true, apart := false }
def VfsRoomSaid : Prop := vfsRoomRow.holds Try.pinned (OpenSpec.ofChange vfsRoomSpec)

/-- ITS FALSE NEIGHBOUR: 'it returns false'. Refute it at one input. -/
def vfsRoomWrong : ChangeSpec := { name := "vfsRoom", fn := fun _ => fun
  | [d1, d2] => { results := [.lit (.bool false)], args := [d1, d2] }
  | _ => none }
def VfsRoomWrongFalsely : Prop := vfsRoomRow.holds Try.pinned (OpenSpec.ofChange vfsRoomWrong)

/-- 'cadencelaw15.VfsOwn': WHATEVER THE INPUT: true; the input reads as it did. -/
def vfsOwnSpec : ChangeSpec := { name := "vfsOwn", fn := fun _ => fun
  | [d1, d2] => { results := [.lit (.bool true)], args := [d1, d2] }
  | _ => none }
def vfsOwnRow : OpenClaim := { program := "ytopellbmmkflgaa", sum := "7a5af8c8da404154b34f9e5be43473ba79026a930ffb251a79a1acf57c525c87", func := "cadence/cadencelaw15.VfsOwn", spec := "vfsOwn", inPlace := ["maps.clone"], unfollowed := true, recurses := true, apart := false }
def VfsOwnSaid : Prop := vfsOwnRow.holds Try.pinned (OpenSpec.ofChange vfsOwnSpec)

/-- ITS FALSE NEIGHBOUR: 'it returns false'. Refute it at one input. -/
def vfsOwnWrong : ChangeSpec := { name := "vfsOwn", fn := fun _ => fun
  | [d1, d2] => { results := [.lit (.bool false)], args := [d1, d2] }
  | _ => none }
def VfsOwnWrongFalsely : Prop := vfsOwnRow.holds Try.pinned (OpenSpec.ofChange vfsOwnWrong)

/-- 'cadencelaw15.VfsNames': WHATEVER THE INPUT: true; the input reads as it did. -/
def vfsNamesSpec : ChangeSpec := { name := "vfsNames", fn := fun _ => fun
  | [d1, d2] => { results := [.lit (.bool true)], args := [d1, d2] }
  | _ => none }
def vfsNamesRow : OpenClaim := { program := "ytopellbmmkflgaa", sum := "7a5af8c8da404154b34f9e5be43473ba79026a930ffb251a79a1acf57c525c87", func := "cadence/cadencelaw15.VfsNames", spec := "vfsNames", inPlace := ["maps.clone"], unfollowed := true, recurses := true, apart := false }
def VfsNamesSaid : Prop := vfsNamesRow.holds Try.pinned (OpenSpec.ofChange vfsNamesSpec)

/-- ITS FALSE NEIGHBOUR: 'it returns false'. Refute it at one input. -/
def vfsNamesWrong : ChangeSpec := { name := "vfsNames", fn := fun _ => fun
  | [d1, d2] => { results := [.lit (.bool false)], args := [d1, d2] }
  | _ => none }
def VfsNamesWrongFalsely : Prop := vfsNamesRow.holds Try.pinned (OpenSpec.ofChange vfsNamesWrong)

/-- 'cadencelaw15.VfsStays': WHATEVER THE INPUT: true; the input reads as it did. -/
def vfsStaysSpec : ChangeSpec := { name := "vfsStays", fn := fun _ => fun
  | [d1, d2, d3, d4] => { results := [.lit (.bool true)], args := [d1, d2, d3, d4] }
  | _ => none }
def vfsStaysRow : OpenClaim := { program := "ytopellbmmkflgaa", sum := "7a5af8c8da404154b34f9e5be43473ba79026a930ffb251a79a1acf57c525c87", func := "cadence/cadencelaw15.VfsStays", spec := "vfsStays", inPlace := ["maps.clone"], unfollowed := true, recurses := true, apart := false }
def VfsStaysSaid : Prop := vfsStaysRow.holds Try.pinned (OpenSpec.ofChange vfsStaysSpec)

/-- ITS FALSE NEIGHBOUR: 'it returns false'. Refute it at one input. -/
def vfsStaysWrong : ChangeSpec := { name := "vfsStays", fn := fun _ => fun
  | [d1, d2, d3, d4] => { results := [.lit (.bool false)], args := [d1, d2, d3, d4] }
  | _ => none }
def VfsStaysWrongFalsely : Prop := vfsStaysRow.holds Try.pinned (OpenSpec.ofChange vfsStaysWrong)

/-- 'cadencelaw15.VfsStops': WHATEVER THE INPUT: true; the input reads as it did. -/
def vfsStopsSpec : ChangeSpec := { name := "vfsStops", fn := fun _ => fun
  | [d1, d2] => { results := [.lit (.bool true)], args := [d1, d2] }
  | _ => none }
def vfsStopsRow : OpenClaim := { program := "ytopellbmmkflgaa", sum := "7a5af8c8da404154b34f9e5be43473ba79026a930ffb251a79a1acf57c525c87", func := "cadence/cadencelaw15.VfsStops", spec := "vfsStops", inPlace := ["maps.clone"], unfollowed := true, recurses := true, apart := false }
def VfsStopsSaid : Prop := vfsStopsRow.holds Try.pinned (OpenSpec.ofChange vfsStopsSpec)

/-- ITS FALSE NEIGHBOUR: 'it returns false'. Refute it at one input. -/
def vfsStopsWrong : ChangeSpec := { name := "vfsStops", fn := fun _ => fun
  | [d1, d2] => { results := [.lit (.bool false)], args := [d1, d2] }
  | _ => none }
def VfsStopsWrongFalsely : Prop := vfsStopsRow.holds Try.pinned (OpenSpec.ofChange vfsStopsWrong)

/-- 'cadencelaw15.VfsHalves': WHATEVER THE INPUT: true; the input reads as it did. -/
def vfsHalvesSpec : ChangeSpec := { name := "vfsHalves", fn := fun _ => fun
  | [d1, d2, d3] => { results := [.lit (.bool true)], args := [d1, d2, d3] }
  | _ => none }
def vfsHalvesRow : OpenClaim := { program := "ytopellbmmkflgaa", sum := "7a5af8c8da404154b34f9e5be43473ba79026a930ffb251a79a1acf57c525c87", func := "cadence/cadencelaw15.VfsHalves", spec := "vfsHalves", inPlace := ["maps.clone"], unfollowed := true, recurses := true, apart := false }
def VfsHalvesSaid : Prop := vfsHalvesRow.holds Try.pinned (OpenSpec.ofChange vfsHalvesSpec)

/-- ITS FALSE NEIGHBOUR: 'it returns false'. Refute it at one input. -/
def vfsHalvesWrong : ChangeSpec := { name := "vfsHalves", fn := fun _ => fun
  | [d1, d2, d3] => { results := [.lit (.bool false)], args := [d1, d2, d3] }
  | _ => none }
def VfsHalvesWrongFalsely : Prop := vfsHalvesRow.holds Try.pinned (OpenSpec.ofChange vfsHalvesWrong)

/-- 'cadencelaw15.VfsPlays': WHATEVER THE INPUT: true; the input reads as it did. -/
def vfsPlaysSpec : ChangeSpec := { name := "vfsPlays", fn := fun _ => fun
  | [d1, d2] => { results := [.lit (.bool true)], args := [d1, d2] }
  | _ => none }
def vfsPlaysRow : OpenClaim := { program := "ytopellbmmkflgaa", sum := "7a5af8c8da404154b34f9e5be43473ba79026a930ffb251a79a1acf57c525c87", func := "cadence/cadencelaw15.VfsPlays", spec := "vfsPlays", inPlace := ["maps.clone"], unfollowed := true, recurses := true, apart := false }
def VfsPlaysSaid : Prop := vfsPlaysRow.holds Try.pinned (OpenSpec.ofChange vfsPlaysSpec)

/-- ITS FALSE NEIGHBOUR: 'it returns false'. Refute it at one input. -/
def vfsPlaysWrong : ChangeSpec := { name := "vfsPlays", fn := fun _ => fun
  | [d1, d2] => { results := [.lit (.bool false)], args := [d1, d2] }
  | _ => none }
def VfsPlaysWrongFalsely : Prop := vfsPlaysRow.holds Try.pinned (OpenSpec.ofChange vfsPlaysWrong)

/- THE SECOND FORM. 'bulk': how many values and letters a reading holds, each counted each time it is reached (what is shared counts as often as it is met; a slice's spare places count too). A statement '..UptoSaid' is the law's where the arguments, and the package variables that the reading takes, are together of bulk at most 1048576: NARROWER than '..Said'. Prove '..Said' where nothing that the law and all that it calls make is longer than what came in: it says more and counts as full. Else prove '..UptoSaid'. A law counts once. -/
mutual
def uptoBulk {H : Type} : DataW H → Nat
  | .lit (.string bytes) => bytes.length + 1
  | .lit _ => 1
  | .nil => 1
  | .ptr d => uptoBulk d + 1
  | .slice elems spare => uptoBulkAll elems + uptoBulkAll spare + 1
  | .agg parts => uptoBulkAll parts + 1
  | .iface _ d => uptoBulk d + 1
  | .map entries => uptoBulkEntries entries + 1
  | .held _ => 1
def uptoBulkAll {H : Type} : List (DataW H) → Nat
  | [] => 0
  | d :: r => uptoBulk d + uptoBulkAll r
def uptoBulkEntries {H : Type} : List (Lit × DataW H) → Nat
  | [] => 0
  | x :: r => uptoBulkEntry x + uptoBulkEntries r
def uptoBulkEntry {H : Type} : Lit × DataW H → Nat
  | (.string bytes, d) => bytes.length + uptoBulk d + 1
  | (_, d) => uptoBulk d + 1
 end
def uptoSmall : (H : Type) → List (DataW H) → Bool := fun _ ds => decide (uptoBulkAll ds ≤ 1048576)
def OpenSpec.upto (s : _root_.Go.ChangeSpec) : _root_.Go.OpenSpec := { _root_.Go.OpenSpec.ofChange s with cond := some uptoSmall }

/-- 'cadencelaw15.VfsRoom', WHERE WHAT IT READS IS OF BULK AT MOST 1048576: true; the input reads as it did. -/
def vfsRoomUptoRow : OpenClaim := { program := "ytopellbmmkflgaa", sum := "7a5af8c8da404154b34f9e5be43473ba79026a930ffb251a79a1acf57c525c87", func := "cadence/cadencelaw15.VfsRoom", spec := "vfsRoom", inPlace := ["maps.clone"], unfollowed := true, recurses := true, apart := false, narrowed := true }
def VfsRoomUptoSaid : Prop := vfsRoomUptoRow.holds Try.pinned (OpenSpec.upto vfsRoomSpec)

/-- 'cadencelaw15.VfsOwn', WHERE WHAT IT READS IS OF BULK AT MOST 1048576: true; the input reads as it did. -/
def vfsOwnUptoRow : OpenClaim := { program := "ytopellbmmkflgaa", sum := "7a5af8c8da404154b34f9e5be43473ba79026a930ffb251a79a1acf57c525c87", func := "cadence/cadencelaw15.VfsOwn", spec := "vfsOwn", inPlace := ["maps.clone"], unfollowed := true, recurses := true, apart := false, narrowed := true }
def VfsOwnUptoSaid : Prop := vfsOwnUptoRow.holds Try.pinned (OpenSpec.upto vfsOwnSpec)

/-- 'cadencelaw15.VfsNames', WHERE WHAT IT READS IS OF BULK AT MOST 1048576: true; the input reads as it did. -/
def vfsNamesUptoRow : OpenClaim := { program := "ytopellbmmkflgaa", sum := "7a5af8c8da404154b34f9e5be43473ba79026a930ffb251a79a1acf57c525c87", func := "cadence/cadencelaw15.VfsNames", spec := "vfsNames", inPlace := ["maps.clone"], unfollowed := true, recurses := true, apart := false, narrowed := true }
def VfsNamesUptoSaid : Prop := vfsNamesUptoRow.holds Try.pinned (OpenSpec.upto vfsNamesSpec)

/-- 'cadencelaw15.VfsStays', WHERE WHAT IT READS IS OF BULK AT MOST 1048576: true; the input reads as it did. -/
def vfsStaysUptoRow : OpenClaim := { program := "ytopellbmmkflgaa", sum := "7a5af8c8da404154b34f9e5be43473ba79026a930ffb251a79a1acf57c525c87", func := "cadence/cadencelaw15.VfsStays", spec := "vfsStays", inPlace := ["maps.clone"], unfollowed := true, recurses := true, apart := false, narrowed := true }
def VfsStaysUptoSaid : Prop := vfsStaysUptoRow.holds Try.pinned (OpenSpec.upto vfsStaysSpec)

/-- 'cadencelaw15.VfsStops', WHERE WHAT IT READS IS OF BULK AT MOST 1048576: true; the input reads as it did. -/
def vfsStopsUptoRow : OpenClaim := { program := "ytopellbmmkflgaa", sum := "7a5af8c8da404154b34f9e5be43473ba79026a930ffb251a79a1acf57c525c87", func := "cadence/cadencelaw15.VfsStops", spec := "vfsStops", inPlace := ["maps.clone"], unfollowed := true, recurses := true, apart := false, narrowed := true }
def VfsStopsUptoSaid : Prop := vfsStopsUptoRow.holds Try.pinned (OpenSpec.upto vfsStopsSpec)

/-- 'cadencelaw15.VfsHalves', WHERE WHAT IT READS IS OF BULK AT MOST 1048576: true; the input reads as it did. -/
def vfsHalvesUptoRow : OpenClaim := { program := "ytopellbmmkflgaa", sum := "7a5af8c8da404154b34f9e5be43473ba79026a930ffb251a79a1acf57c525c87", func := "cadence/cadencelaw15.VfsHalves", spec := "vfsHalves", inPlace := ["maps.clone"], unfollowed := true, recurses := true, apart := false, narrowed := true }
def VfsHalvesUptoSaid : Prop := vfsHalvesUptoRow.holds Try.pinned (OpenSpec.upto vfsHalvesSpec)

/-- 'cadencelaw15.VfsPlays', WHERE WHAT IT READS IS OF BULK AT MOST 1048576: true; the input reads as it did. -/
def vfsPlaysUptoRow : OpenClaim := { program := "ytopellbmmkflgaa", sum := "7a5af8c8da404154b34f9e5be43473ba79026a930ffb251a79a1acf57c525c87", func := "cadence/cadencelaw15.VfsPlays", spec := "vfsPlays", inPlace := ["maps.clone"], unfollowed := true, recurses := true, apart := false, narrowed := true }
def VfsPlaysUptoSaid : Prop := vfsPlaysUptoRow.holds Try.pinned (OpenSpec.upto vfsPlaysSpec)

end Rows
end Go.Proofs.Ytopellbmmkflgaa
