/- Package cadenceref3: Exact, of two sets that are written alike. -/
import Derived.Test.YtbjkfllghkcgcaaNmK
set_option linter.unusedVariables false
set_option linter.unusedSimpArgs false
namespace Go.Proofs.Ytbjkfllghkcgcaa
open Go.RowKit Go.Sort

attribute [local go_sem] Vc.known_tmp Vc.known_const Vc.known_func Vc.known_global Vc.lk Vc.okUpon Vc.Fact.holds

set_option maxHeartbeats 2000000 in
theorem exact_any (b : Bool) (A1 : Option Addr) (n c1 : Nat) (A2 : Option Addr) (c2 : Nat) (L : List Str) (w : World) (hn : Hid (L.length = n)) (hr1 : Rd w A1 (L.map encStr)) (hr2 : Rd w A2 (L.map encStr)) (hl : n ≤ 1000000) :
    Calls Try.prog 22 #[.agg #[.bool b, .slice A1 n c1], .agg #[.bool b, .slice A2 n c2]] w fun e w' => e = .returned (.bool true) ∧ Gr w w' := by
  obtain ⟨hb1, hb2, hg1⟩ := new2 w 25 25 [.bool b, .slice A1 n c1] [.bool b, .slice A2 n c2]
  go_enter Try.func22, Try.ntmps22
  cases b
  all_goals
    go_wp2_with fail
    generalize (w.alloc (.cells #[.bool _, .slice A1 n c1] 25)).alloc (.cells #[.bool _, .slice A2 n c2] 25) = w1 at *
    have hd1 := hr1.gr hg1
    have hd2 := hr2.gr hg1
    go_loopw [5] (fun i wr => ∃ j : Nat, j ≤ n ∧ i = .int .i64 j ∧ Gr w1 wr) (fun i _ => n - (intOf i).toNat)
    case atStart => exact ⟨0, by omega, rfl, Gr.rfl' _⟩
    case round =>
      obtain ⟨j, hj, rfl, hb⟩ := hrel
      have hc1 : wr.cell? ⟨w.heap.size, 1, none⟩ = some (.slice A1 n c1) := (hb1.gr hb).cell 1
      have hc2 : wr.cell? ⟨w.heap.size + 1, 1, none⟩ = some (.slice A2 n c2) := (hb2.gr hb).cell 1
      by_cases hlt : j < n
      · have hjl : j < L.length := by have := hn.out; omega
        obtain ⟨ad, rfl, hx1⟩ := hd1.at_ (k := j) (by simpa using hjl)
        obtain ⟨ad2, rfl, hx2⟩ := hd2.at_ (k := j) (by simpa using hjl)
        have hx1 := Lib.hid (hb.cell hx1)
        have hx2 := Lib.hid (hb.cell hx2)
        simp only [List.getElem_map] at hx1 hx2
        generalize L[j] = x at *
        have hC1 := Lib.hid hc1
        have hC2 := Lib.hid hc2
        go_wp2_with fail
        refine Vc.wp_region_facts ⟨Gr, fun _ => Gr, fun _ W => Gr wr W, []⟩ (by kernel_rfl) (by kernel_rfl) (fun _ _ _ h h' => h'.trans' h) (Gr.draw _) ?_
        repeat
          refine Vc.Walk.pure (v := ?_) (fun _ => Gr.rfl' _) rfl (by first | exact Vc.GuardYes.no rfl | exact Vc.GuardYes.yes rfl rfl) rfl rfl ?_ ?_
          rotate_left
          · intro _ W hI
            (have y0 := hI.g.cell hC1.out; have y1 := hI.g.cell hC2.out; have y2 := hI.g.cell hx1.out; have y3 := hI.g.cell hx2.out; clear hI)
            go_simp
            exact rfl
        intro W hW
        have hW : Gr wr W := hW
        simp only [List.reverse_cons, List.reverse_nil, List.nil_append, List.cons_append, Vc.finish, Act.put, List.setIfInBounds_toArray, List.set_cons_zero, List.set_cons_succ]
        go_wp2_with fail
        go_roundw
        case rel => exact ⟨j + 1, by omega, by go_num, hb.trans' hW⟩
        case measure => simp [intOf]; omega
      · obtain rfl : j = n := by omega
        go_wp2_with fail
        go_ret
        exact ⟨rfl, hg1.trans' hb⟩
end Go.Proofs.Ytbjkfllghkcgcaa
