/- Package cadenceref3: pick, whole. -/
import Derived.Test.YtbjkfllghkcgcaaNaR4a
import Derived.Test.YtbjkfllghkcgcaaNaR4b
import Derived.Test.YtbjkfllghkcgcaaNaR4c
namespace Go.Proofs.Ytbjkfllghkcgcaa
open Go.RowKit Go.Sort

theorem pick_any (both b1 : Bool) (A1 : Option Addr) (n1 c1 : Nat) (L1 : List Str) (b2 : Bool) (A2 : Option Addr) (n2 c2 : Nat) (L2 : List Str) (w : World) (hn1 : Hid (L1.length = n1)) (hr1 : Rd w A1 (L1.map encStr)) (hl1 : n1 ≤ 1000)
    (hn2 : Hid (L2.length = n2)) (hr2 : Rd w A2 (L2.map encStr)) (hl2 : n2 ≤ 1000) :
    Calls Try.prog 39 #[.agg #[.bool b1, .slice A1 n1 c1], .agg #[.bool b2, .slice A2 n2 c2], .bool both] w (NmB w (pickF both b1 b2) (ofL (pickR both b1 b2 L1 L2 (L1 ++ L2)))) := by
  cases both
  · cases b1
    · exact pick_false_false A1 n1 c1 L1 b2 A2 n2 c2 L2 w hn1 hr1 hl1 hn2 hr2 hl2
    · exact pick_false_true A1 n1 c1 L1 b2 A2 n2 c2 L2 w hn1 hr1 hl1 hn2 hr2 hl2
  · exact pick_true b1 A1 n1 c1 L1 b2 A2 n2 c2 L2 w hn1 hr1 hl1 hn2 hr2 hl2
end Go.Proofs.Ytbjkfllghkcgcaa
