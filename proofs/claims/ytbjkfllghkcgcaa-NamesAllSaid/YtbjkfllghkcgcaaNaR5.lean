/- Package cadenceref3: Both, Either. -/
import Derived.Test.YtbjkfllghkcgcaaNaR4
set_option linter.unusedVariables false
set_option linter.unusedSimpArgs false
namespace Go.Proofs.Ytbjkfllghkcgcaa
open Go.RowKit Go.Sort

set_option maxHeartbeats 4000000 in
theorem xboth_any (b1 : Bool) (A1 : Option Addr) (n1 c1 : Nat) (L1 : List Str) (b2 : Bool) (A2 : Option Addr) (n2 c2 : Nat) (L2 : List Str) (w : World) (hn1 : Hid (L1.length = n1)) (hr1 : Rd w A1 (L1.map encStr)) (hl1 : n1 ≤ 1000)
    (hn2 : Hid (L2.length = n2)) (hr2 : Rd w A2 (L2.map encStr)) (hl2 : n2 ≤ 1000) :
    Calls Try.prog 24 #[.agg #[.bool b1, .slice A1 n1 c1], .agg #[.bool b2, .slice A2 n2 c2]] w (NmB w (b1 && b2) (bothL b1 b2 L1 L2)) := by
  have HP := Lib.hid (fun W h h' => (pick_both b1 b2 L1 L2) ▸ (show Calls _ _ _ W (NmB W (b1 && b2) _) from pick_any true b1 A1 n1 c1 L1 b2 A2 n2 c2 L2 W hn1 h hl1 hn2 h' hl2))
  generalize (b1 && b2) = f at *
  generalize bothL b1 b2 L1 L2 = P at *
  obtain ⟨hrow, hrow2, hres, hg1⟩ := new3 w 25 25 25 [.bool b1, .slice A1 n1 c1] [.bool b2, .slice A2 n2 c2] [.bool false, .slice none 0 0]
  go_enter Try.func24, Try.ntmps24
  go_wp2_with (first
    | (go_at_call 39; (with_reducible refine (HP.out _ (hr1.gr hg1) (hr2.gr hg1)).mono ?_); rintro e W ⟨A', n', c', rfl, hn', hr', h1, h2, hW⟩
       have hrow := hres.gr hW
       have hq0 : W.cell? ⟨w.heap.size + 1 + 1, 0, none⟩ = some (.bool false) := hrow.cell 0
       have hq1 : W.cell? ⟨w.heap.size + 1 + 1, 1, none⟩ = some (.slice none 0 0) := hrow.cell 1
       have hf0 : W.frozen? ⟨w.heap.size + 1 + 1, 0, none⟩ = false := hrow.frozen 0
       have hf1 : W.frozen? ⟨w.heap.size + 1 + 1, 1, none⟩ = false := hrow.frozen 1
       have hn' := Lib.hid hn'))
  obtain ⟨hR, ho, hG⟩ := res2 hrow (hg1.trans' hW) (by omega) (.bool f) (.slice A' n' c')
  have hs0 := hR.cell 0
  have hs1 := hR.cell 1
  simp only [List.getElem?_cons_zero, List.getElem?_cons_succ] at hs0 hs1
  (try simp only [Exit.inBlock, Exit.then])
  refine bodyPost_ret (v := ?_) ?_ rfl ?_
  rotate_left
  · simp [results, Try.results24, go_sem, hs0, hs1]
    (try rfl)
  exact ⟨A', n', c', rfl, hn'.out, hr'.keepStr hrow (by simp) ho, h1, h2, hG⟩

set_option maxHeartbeats 4000000 in
theorem xeither_any (b1 : Bool) (A1 : Option Addr) (n1 c1 : Nat) (L1 : List Str) (b2 : Bool) (A2 : Option Addr) (n2 c2 : Nat) (L2 : List Str) (w : World) (hn1 : Hid (L1.length = n1)) (hr1 : Rd w A1 (L1.map encStr)) (hl1 : n1 ≤ 1000)
    (hn2 : Hid (L2.length = n2)) (hr2 : Rd w A2 (L2.map encStr)) (hl2 : n2 ≤ 1000) :
    Calls Try.prog 25 #[.agg #[.bool b1, .slice A1 n1 c1], .agg #[.bool b2, .slice A2 n2 c2]] w (NmB w (b1 || b2) (eitherL b1 b2 L1 L2)) := by
  have HP := Lib.hid (fun W h h' => (pick_either b1 b2 L1 L2) ▸ (show Calls _ _ _ W (NmB W (b1 || b2) _) from pick_any false b1 A1 n1 c1 L1 b2 A2 n2 c2 L2 W hn1 h hl1 hn2 h' hl2))
  generalize (b1 || b2) = f at *
  generalize eitherL b1 b2 L1 L2 = P at *
  obtain ⟨hrow, hrow2, hres, hg1⟩ := new3 w 25 25 25 [.bool b1, .slice A1 n1 c1] [.bool b2, .slice A2 n2 c2] [.bool false, .slice none 0 0]
  go_enter Try.func25, Try.ntmps25
  go_wp2_with (first
    | (go_at_call 39; (with_reducible refine (HP.out _ (hr1.gr hg1) (hr2.gr hg1)).mono ?_); rintro e W ⟨A', n', c', rfl, hn', hr', h1, h2, hW⟩
       have hrow := hres.gr hW
       have hq0 : W.cell? ⟨w.heap.size + 1 + 1, 0, none⟩ = some (.bool false) := hrow.cell 0
       have hq1 : W.cell? ⟨w.heap.size + 1 + 1, 1, none⟩ = some (.slice none 0 0) := hrow.cell 1
       have hf0 : W.frozen? ⟨w.heap.size + 1 + 1, 0, none⟩ = false := hrow.frozen 0
       have hf1 : W.frozen? ⟨w.heap.size + 1 + 1, 1, none⟩ = false := hrow.frozen 1
       have hn' := Lib.hid hn'))
  obtain ⟨hR, ho, hG⟩ := res2 hrow (hg1.trans' hW) (by omega) (.bool f) (.slice A' n' c')
  have hs0 := hR.cell 0
  have hs1 := hR.cell 1
  simp only [List.getElem?_cons_zero, List.getElem?_cons_succ] at hs0 hs1
  (try simp only [Exit.inBlock, Exit.then])
  refine bodyPost_ret (v := ?_) ?_ rfl ?_
  rotate_left
  · simp [results, Try.results25, go_sem, hs0, hs1]
    (try rfl)
  exact ⟨A', n', c', rfl, hn'.out, hr'.keepStr hrow (by simp) ho, h1, h2, hG⟩
end Go.Proofs.Ytbjkfllghkcgcaa
