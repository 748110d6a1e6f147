/-
  No cell of these rows narrows 'for every input' (looked for: loops, veiled, ifaces, maps, wideKeys, modest, calm, conditions, laid).
  DERIVED. THE GIVEN ROWS OF THIS SEAT. 7 by the template 'for every input the law returns true; each argument reads behind the call as it read before'; 0 by the template 'total and deterministic' (their statements: YtcfbkhgdlgnmgaaTotals.lean).
  GIVEN WITH THE SEED: the statements are not yours to turn. If you find one false, say at which input.
  Laid BY PROGRAM, IN A SANDBOX (cutbox-rows.mjs): the forced cells as the released guide's own fill.sh prints them over the translation 8da045e1dbd8941b… (all of the seat's roots in one cut). By AI agents, Wed Nov 11 2026. No macro, syntax, notation, axiom, sorry.
-/
import Derived.Test.YtcfbkhgdlgnmgaaChecked
import GoSem.Claim
import GoSem.ClaimJoined
import GoSem.ClaimMapViews
import Derived.JoinedTies
import Derived.KernelRfl
namespace Go.Proofs.Ytcfbkhgdlgnmgaa
/- THE CELL 'sum', in the pinned program and in every row, IS THE sha256 OF THE DUMP (.gsa) THAT YtcfbkhgdlgnmgaaProg.lean LOADS. Nothing in Lean hashes anything: it is a label: what it is worth is what the hold of that sum in a sandbox is worth. -/
noncomputable def Try.pinned : Pinned := { name := "ytcfbkhgdlgnmgaa", sum := "8da045e1dbd8941b70221d9eabddea123acf4bad61d0a9eec44ae7690a7b0b0b", checked := Try.checked }
namespace Rows
def none {H : Type} : Left H := { results := [], args := [] }

/-- 'cadencelaw16.CommitRoom': WHATEVER THE INPUT: true; the input reads as it did. -/
def commitRoomSpec : ChangeSpec := { name := "commitRoom", fn := fun _ => fun
  | [d1, d2, d3] => { results := [.lit (.bool true)], args := [d1, d2, d3] }
  | _ => none }
def commitRoomRow : OpenClaim := { program := "ytcfbkhgdlgnmgaa", sum := "8da045e1dbd8941b70221d9eabddea123acf4bad61d0a9eec44ae7690a7b0b0b", func := "cadence/cadencelaw16.CommitRoom", spec := "commitRoom", inPlace := ["maps.clone"], unfollowed := true, recurses := true, apart := false }
def CommitRoomSaid : Prop := commitRoomRow.holds Try.pinned (OpenSpec.ofChange commitRoomSpec)

/-- ITS FALSE NEIGHBOUR: 'it returns false'. Refute it at one input. -/
def commitRoomWrong : ChangeSpec := { name := "commitRoom", fn := fun _ => fun
  | [d1, d2, d3] => { results := [.lit (.bool false)], args := [d1, d2, d3] }
  | _ => none }
def CommitRoomWrongFalsely : Prop := commitRoomRow.holds Try.pinned (OpenSpec.ofChange commitRoomWrong)

/-- 'cadencelaw16.CommitStray': WHATEVER THE INPUT: true; the input reads as it did. -/
def commitStraySpec : ChangeSpec := { name := "commitStray", fn := fun _ => fun
  | [d1, d2, d3] => { results := [.lit (.bool true)], args := [d1, d2, d3] }
  | _ => none }
def commitStrayRow : OpenClaim := { program := "ytcfbkhgdlgnmgaa", sum := "8da045e1dbd8941b70221d9eabddea123acf4bad61d0a9eec44ae7690a7b0b0b", func := "cadence/cadencelaw16.CommitStray", spec := "commitStray", inPlace := ["maps.clone"], unfollowed := true, recurses := true, apart := false }
def CommitStraySaid : Prop := commitStrayRow.holds Try.pinned (OpenSpec.ofChange commitStraySpec)

/-- ITS FALSE NEIGHBOUR: 'it returns false'. Refute it at one input. -/
def commitStrayWrong : ChangeSpec := { name := "commitStray", fn := fun _ => fun
  | [d1, d2, d3] => { results := [.lit (.bool false)], args := [d1, d2, d3] }
  | _ => none }
def CommitStrayWrongFalsely : Prop := commitStrayRow.holds Try.pinned (OpenSpec.ofChange commitStrayWrong)

/-- 'cadencelaw16.CommitTwice': WHATEVER THE INPUT: true; the input reads as it did. -/
def commitTwiceSpec : ChangeSpec := { name := "commitTwice", fn := fun _ => fun
  | [d1, d2] => { results := [.lit (.bool true)], args := [d1, d2] }
  | _ => none }
def commitTwiceRow : OpenClaim := { program := "ytcfbkhgdlgnmgaa", sum := "8da045e1dbd8941b70221d9eabddea123acf4bad61d0a9eec44ae7690a7b0b0b", func := "cadence/cadencelaw16.CommitTwice", spec := "commitTwice", inPlace := ["maps.clone"], unfollowed := true, recurses := true, apart := false }
def CommitTwiceSaid : Prop := commitTwiceRow.holds Try.pinned (OpenSpec.ofChange commitTwiceSpec)

/-- ITS FALSE NEIGHBOUR: 'it returns false'. Refute it at one input. -/
def commitTwiceWrong : ChangeSpec := { name := "commitTwice", fn := fun _ => fun
  | [d1, d2] => { results := [.lit (.bool false)], args := [d1, d2] }
  | _ => none }
def CommitTwiceWrongFalsely : Prop := commitTwiceRow.holds Try.pinned (OpenSpec.ofChange commitTwiceWrong)

/-- 'cadencelaw16.CommitRefuses': WHATEVER THE INPUT: true; the input reads as it did. -/
def commitRefusesSpec : ChangeSpec := { name := "commitRefuses", fn := fun _ => fun
  | [d1, d2] => { results := [.lit (.bool true)], args := [d1, d2] }
  | _ => none }
def commitRefusesRow : OpenClaim := { program := "ytcfbkhgdlgnmgaa", sum := "8da045e1dbd8941b70221d9eabddea123acf4bad61d0a9eec44ae7690a7b0b0b", func := "cadence/cadencelaw16.CommitRefuses", spec := "commitRefuses", inPlace := ["maps.clone"], unfollowed := true, recurses := true, apart := false }
def CommitRefusesSaid : Prop := commitRefusesRow.holds Try.pinned (OpenSpec.ofChange commitRefusesSpec)

/-- ITS FALSE NEIGHBOUR: 'it returns false'. Refute it at one input. -/
def commitRefusesWrong : ChangeSpec := { name := "commitRefuses", fn := fun _ => fun
  | [d1, d2] => { results := [.lit (.bool false)], args := [d1, d2] }
  | _ => none }
def CommitRefusesWrongFalsely : Prop := commitRefusesRow.holds Try.pinned (OpenSpec.ofChange commitRefusesWrong)

/-- 'cadencelaw16.CommitOps': WHATEVER THE INPUT: true; the input reads as it did. -/
def commitOpsSpec : ChangeSpec := { name := "commitOps", fn := fun _ => fun
  | [d] => { results := [.lit (.bool true)], args := [d] }
  | _ => none }
def commitOpsRow : OpenClaim := { program := "ytcfbkhgdlgnmgaa", sum := "8da045e1dbd8941b70221d9eabddea123acf4bad61d0a9eec44ae7690a7b0b0b", func := "cadence/cadencelaw16.CommitOps", spec := "commitOps", inPlace := ["maps.clone"], unfollowed := true, recurses := true, apart := false }
def CommitOpsSaid : Prop := commitOpsRow.holds Try.pinned (OpenSpec.ofChange commitOpsSpec)

/-- ITS FALSE NEIGHBOUR: 'it returns false'. Refute it at one input. -/
def commitOpsWrong : ChangeSpec := { name := "commitOps", fn := fun _ => fun
  | [d] => { results := [.lit (.bool false)], args := [d] }
  | _ => none }
def CommitOpsWrongFalsely : Prop := commitOpsRow.holds Try.pinned (OpenSpec.ofChange commitOpsWrong)

/-- 'cadencelaw16.CommitWhole': WHATEVER THE INPUT: true; the input reads as it did. -/
def commitWholeSpec : ChangeSpec := { name := "commitWhole", fn := fun _ => fun
  | [d1, d2, d3, d4, d5, d6] => { results := [.lit (.bool true)], args := [d1, d2, d3, d4, d5, d6] }
  | _ => none }
def commitWholeRow : OpenClaim := { program := "ytcfbkhgdlgnmgaa", sum := "8da045e1dbd8941b70221d9eabddea123acf4bad61d0a9eec44ae7690a7b0b0b", func := "cadence/cadencelaw16.CommitWhole", spec := "commitWhole", inPlace := ["maps.clone"], unfollowed := true, recurses := true, apart := false }
def CommitWholeSaid : Prop := commitWholeRow.holds Try.pinned (OpenSpec.ofChange commitWholeSpec)

/-- ITS FALSE NEIGHBOUR: 'it returns false'. Refute it at one input. -/
def commitWholeWrong : ChangeSpec := { name := "commitWhole", fn := fun _ => fun
  | [d1, d2, d3, d4, d5, d6] => { results := [.lit (.bool false)], args := [d1, d2, d3, d4, d5, d6] }
  | _ => none }
def CommitWholeWrongFalsely : Prop := commitWholeRow.holds Try.pinned (OpenSpec.ofChange commitWholeWrong)

/-- 'cadencelaw16.CommitPlays': WHATEVER THE INPUT: true; the input reads as it did. -/
def commitPlaysSpec : ChangeSpec := { name := "commitPlays", fn := fun _ => fun
  | [d1, d2, d3, d4, d5, d6, d7] => { results := [.lit (.bool true)], args := [d1, d2, d3, d4, d5, d6, d7] }
  | _ => none }
def commitPlaysRow : OpenClaim := { program := "ytcfbkhgdlgnmgaa", sum := "8da045e1dbd8941b70221d9eabddea123acf4bad61d0a9eec44ae7690a7b0b0b", func := "cadence/cadencelaw16.CommitPlays", spec := "commitPlays", inPlace := ["maps.clone"], unfollowed := true, recurses := true, apart := false }
def CommitPlaysSaid : Prop := commitPlaysRow.holds Try.pinned (OpenSpec.ofChange commitPlaysSpec)

/-- ITS FALSE NEIGHBOUR: 'it returns false'. Refute it at one input. -/
def commitPlaysWrong : ChangeSpec := { name := "commitPlays", fn := fun _ => fun
  | [d1, d2, d3, d4, d5, d6, d7] => { results := [.lit (.bool false)], args := [d1, d2, d3, d4, d5, d6, d7] }
  | _ => none }
def CommitPlaysWrongFalsely : Prop := commitPlaysRow.holds Try.pinned (OpenSpec.ofChange commitPlaysWrong)

/- THE SECOND FORM. 'bulk': how many values and letters a reading holds, each counted each time it is reached (what is shared counts as often as it is met; a slice's spare places count too). A statement '..UptoSaid' is the law's where the arguments, and the package variables that the reading takes, are together of bulk at most 1048576: NARROWER than '..Said'. Prove '..Said' where nothing that the law and all that it calls make is longer than what came in: it says more and counts as full. Else prove '..UptoSaid'. A law counts once. -/
mutual
def uptoBulk {H : Type} : DataW H → Nat
  | .lit (.string bytes) => bytes.length + 1
  | .lit _ => 1
  | .nil => 1
  | .ptr d => uptoBulk d + 1
  | .slice elems spare => uptoBulkAll elems + uptoBulkAll spare + 1
  | .agg parts => uptoBulkAll parts + 1
  | .iface _ d => uptoBulk d + 1
  | .map entries => uptoBulkEntries entries + 1
  | .held _ => 1
def uptoBulkAll {H : Type} : List (DataW H) → Nat
  | [] => 0
  | d :: r => uptoBulk d + uptoBulkAll r
def uptoBulkEntries {H : Type} : List (Lit × DataW H) → Nat
  | [] => 0
  | x :: r => uptoBulkEntry x + uptoBulkEntries r
def uptoBulkEntry {H : Type} : Lit × DataW H → Nat
  | (.string bytes, d) => bytes.length + uptoBulk d + 1
  | (_, d) => uptoBulk d + 1
 end
def uptoSmall : (H : Type) → List (DataW H) → Bool := fun _ ds => decide (uptoBulkAll ds ≤ 1048576)
def OpenSpec.upto (s : _root_.Go.ChangeSpec) : _root_.Go.OpenSpec := { _root_.Go.OpenSpec.ofChange s with cond := some uptoSmall }

/-- 'cadencelaw16.CommitRoom', WHERE WHAT IT READS IS OF BULK AT MOST 1048576: true; the input reads as it did. -/
def commitRoomUptoRow : OpenClaim := { program := "ytcfbkhgdlgnmgaa", sum := "8da045e1dbd8941b70221d9eabddea123acf4bad61d0a9eec44ae7690a7b0b0b", func := "cadence/cadencelaw16.CommitRoom", spec := "commitRoom", inPlace := ["maps.clone"], unfollowed := true, recurses := true, apart := false, narrowed := true }
def CommitRoomUptoSaid : Prop := commitRoomUptoRow.holds Try.pinned (OpenSpec.upto commitRoomSpec)

/-- 'cadencelaw16.CommitStray', WHERE WHAT IT READS IS OF BULK AT MOST 1048576: true; the input reads as it did. -/
def commitStrayUptoRow : OpenClaim := { program := "ytcfbkhgdlgnmgaa", sum := "8da045e1dbd8941b70221d9eabddea123acf4bad61d0a9eec44ae7690a7b0b0b", func := "cadence/cadencelaw16.CommitStray", spec := "commitStray", inPlace := ["maps.clone"], unfollowed := true, recurses := true, apart := false, narrowed := true }
def CommitStrayUptoSaid : Prop := commitStrayUptoRow.holds Try.pinned (OpenSpec.upto commitStraySpec)

/-- 'cadencelaw16.CommitTwice', WHERE WHAT IT READS IS OF BULK AT MOST 1048576: true; the input reads as it did. -/
def commitTwiceUptoRow : OpenClaim := { program := "ytcfbkhgdlgnmgaa", sum := "8da045e1dbd8941b70221d9eabddea123acf4bad61d0a9eec44ae7690a7b0b0b", func := "cadence/cadencelaw16.CommitTwice", spec := "commitTwice", inPlace := ["maps.clone"], unfollowed := true, recurses := true, apart := false, narrowed := true }
def CommitTwiceUptoSaid : Prop := commitTwiceUptoRow.holds Try.pinned (OpenSpec.upto commitTwiceSpec)

/-- 'cadencelaw16.CommitRefuses', WHERE WHAT IT READS IS OF BULK AT MOST 1048576: true; the input reads as it did. -/
def commitRefusesUptoRow : OpenClaim := { program := "ytcfbkhgdlgnmgaa", sum := "8da045e1dbd8941b70221d9eabddea123acf4bad61d0a9eec44ae7690a7b0b0b", func := "cadence/cadencelaw16.CommitRefuses", spec := "commitRefuses", inPlace := ["maps.clone"], unfollowed := true, recurses := true, apart := false, narrowed := true }
def CommitRefusesUptoSaid : Prop := commitRefusesUptoRow.holds Try.pinned (OpenSpec.upto commitRefusesSpec)

/-- 'cadencelaw16.CommitOps', WHERE WHAT IT READS IS OF BULK AT MOST 1048576: true; the input reads as it did. -/
def commitOpsUptoRow : OpenClaim := { program := "ytcfbkhgdlgnmgaa", sum := "8da045e1dbd8941b70221d9eabddea123acf4bad61d0a9eec44ae7690a7b0b0b", func := "cadence/cadencelaw16.CommitOps", spec := "commitOps", inPlace := ["maps.clone"], unfollowed := true, recurses := true, apart := false, narrowed := true }
def CommitOpsUptoSaid : Prop := commitOpsUptoRow.holds Try.pinned (OpenSpec.upto commitOpsSpec)

/-- 'cadencelaw16.CommitWhole', WHERE WHAT IT READS IS OF BULK AT MOST 1048576: true; the input reads as it did. -/
def commitWholeUptoRow : OpenClaim := { program := "ytcfbkhgdlgnmgaa", sum := "8da045e1dbd8941b70221d9eabddea123acf4bad61d0a9eec44ae7690a7b0b0b", func := "cadence/cadencelaw16.CommitWhole", spec := "commitWhole", inPlace := ["maps.clone"], unfollowed := true, recurses := true, apart := false, narrowed := true }
def CommitWholeUptoSaid : Prop := commitWholeUptoRow.holds Try.pinned (OpenSpec.upto commitWholeSpec)

/-- 'cadencelaw16.CommitPlays', WHERE WHAT IT READS IS OF BULK AT MOST 1048576: true; the input reads as it did. -/
def commitPlaysUptoRow : OpenClaim := { program := "ytcfbkhgdlgnmgaa", sum := "8da045e1dbd8941b70221d9eabddea123acf4bad61d0a9eec44ae7690a7b0b0b", func := "cadence/cadencelaw16.CommitPlays", spec := "commitPlays", inPlace := ["maps.clone"], unfollowed := true, recurses := true, apart := false, narrowed := true }
def CommitPlaysUptoSaid : Prop := commitPlaysUptoRow.holds Try.pinned (OpenSpec.upto commitPlaysSpec)

end Rows
end Go.Proofs.Ytcfbkhgdlgnmgaa
