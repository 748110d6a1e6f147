/-
  The statement of 'SchemaMany': the Go function returns true at every input, and its arguments read as before.
  Conditions: none.
-/
import Derived.Test.YtoihiehoolehiaaMSchemaMany1
import Derived.Test.YtoihiehoolehiaaMSchemaMany2
import Derived.Test.YtoihiehoolehiaaRows
import Derived.WalkKit
import Derived.ProofKit
import Derived.OpenShut
import Derived.ShutString
import Derived.ChangeOld
import Derived.Below
import Derived.SizedLaws
-- written by wip/tools/hybrid.py (over the kit's print.py, with functions proved by hand beside it) for this claim
namespace Go.Proofs.Ytoihiehoolehiaa.PX
open Go.RowKit Go.Proofs.YtoihiehoolehiaaW.PrintWords Go.Proofs.YtoihiehoolehiaaW.PrintLast Go.Proofs.YtoihiehoolehiaaW.PrintMore
attribute [local go_sem] max2_int min2_int max_two min_two max_three min_three max_four min_four   -- for this text's walks alone
set_option linter.unusedVariables false
set_option linter.unusedSimpArgs false

attribute [local go_sem] run_field_87_0
/-! ### schema_Check: function 11 -/
mutual
def schema_Check.l0 : Nat → List (S33) → List (S33) → Int → Int → Option (Int)
  | 0, _, _, _, _ => none
  | k + 1, x0, x16, x17, x18 => if x18 < x17 then (if 0 ≤ x18 then (if x18 < (x16.length : Int) then (if (((rd_T33 x16 x18).f0).length : Int) > 6 then (some 4) else (schema_Check.l1 k x0 x16 x17 x18 ((rd_T33 x16 x18).f0) (((rd_T33 x16 x18).f0).length : Int) 0 ((rd_T33 x16 x18).f0) ((rd_T33 x16 x18).f1) ((rd_T33 x16 x18).f2))) else (none)) else (none)) else (some 0)
def schema_Check.l1 : Nat → List (S33) → List (S33) → Int → Int → List (S40) → Int → Int → List (S40) → Bool → Bool → Option (Int)
  | 0, _, _, _, _, _, _, _, _, _, _ => none
  | k + 1, x0, x16, x17, x18, x27, x28, x29, x103000, x103001, x103002 => if x29 < x28 then (if 0 ≤ x29 then (if x29 < (x27.length : Int) then (if x29 ≤ (x103000.length : Int) then ((schema_field.f x0 (x103000.take (x29 : Int).toNat) ((rd_T40 x27 x29).f0.f0) ((rd_T40 x27 x29).f0.f1) ((rd_T40 x27 x29).f1) ((rd_T40 x27 x29).f2)).bind fun t109 => (if t109 = 0 then (schema_Check.l1 k x0 x16 x17 x18 x27 x28 (wrap64 (x29 + 1)) x103000 x103001 x103002) else (some t109))) else (none)) else (none)) else (none)) else (schema_Check.l0 k x0 x16 x17 (wrap64 (x18 + 1)))
end
def schema_Check.f (k : Nat) (l0 : List (S33)) : Option (Int) := if (l0.length : Int) = 0 then (some 2) else (if (l0.length : Int) > 12 then (some 4) else (schema_Check.l0 k l0 l0 (l0.length : Int) 0))
theorem schema_Check.mono_l : ∀ k, (∀ y0 y1 y2 y3, LeO (schema_Check.l0 k y0 y1 y2 y3) (schema_Check.l0 (k + 1) y0 y1 y2 y3)) ∧ (∀ y0 y1 y2 y3 y4 y5 y6 y7 y8 y9, LeO (schema_Check.l1 k y0 y1 y2 y3 y4 y5 y6 y7 y8 y9) (schema_Check.l1 (k + 1) y0 y1 y2 y3 y4 y5 y6 y7 y8 y9))
  | 0 => ⟨fun _ _ _ _ r h => by simp [schema_Check.l0] at h, fun _ _ _ _ _ _ _ _ _ _ r h => by simp [schema_Check.l1] at h⟩
  | k + 1 => by
    obtain ⟨ih0, ih1⟩ := schema_Check.mono_l k
    refine ⟨?_, ?_⟩
    · intro y0 y1 y2 y3
      unfold schema_Check.l0
      repeat' first
      | (with_reducible exact ih0 _ _ _ _)
      | (with_reducible exact ih1 _ _ _ _ _ _ _ _ _ _)
      | (with_reducible exact LeO.refl _)
      | (with_reducible exact LeO.none _)
      | (with_reducible refine LeO.ite ?_ ?_)
      | (with_reducible refine LeO.bind ?_ (fun _ => ?_))
      | exact ih0 _ _ _ _
      | exact ih1 _ _ _ _ _ _ _ _ _ _
      | exact LeO.none _
      | refine LeO.ite ?_ ?_
      | refine LeO.bind ?_ (fun _ => ?_)
    · intro y0 y1 y2 y3 y4 y5 y6 y7 y8 y9
      unfold schema_Check.l1
      repeat' first
      | (with_reducible exact ih0 _ _ _ _)
      | (with_reducible exact ih1 _ _ _ _ _ _ _ _ _ _)
      | (with_reducible exact LeO.refl _)
      | (with_reducible exact LeO.none _)
      | (with_reducible refine LeO.ite ?_ ?_)
      | (with_reducible refine LeO.bind ?_ (fun _ => ?_))
      | exact ih0 _ _ _ _
      | exact ih1 _ _ _ _ _ _ _ _ _ _
      | exact LeO.none _
      | refine LeO.ite ?_ ?_
      | refine LeO.bind ?_ (fun _ => ?_)
theorem schema_Check.mono : ∀ a0 k, LeO (schema_Check.f k a0) (schema_Check.f (k + 1) a0) := by
  intro a0 k
  obtain ⟨ih0, ih1⟩ := schema_Check.mono_l k
  unfold schema_Check.f
  repeat' first
      | (with_reducible exact ih0 _ _ _ _)
      | (with_reducible exact ih1 _ _ _ _ _ _ _ _ _ _)
      | (with_reducible exact LeO.refl _)
      | (with_reducible exact LeO.none _)
      | (with_reducible refine LeO.ite ?_ ?_)
      | (with_reducible refine LeO.bind ?_ (fun _ => ?_))
      | exact ih0 _ _ _ _
      | exact ih1 _ _ _ _ _ _ _ _ _ _
      | exact LeO.none _
      | refine LeO.ite ?_ ?_
      | refine LeO.bind ?_ (fun _ => ?_)
def schema_Check.T13 : Bool × List (List Nat × List Nat) := (true, [([], []), ([], []), ([1], [1]), ([], []), ([2, 3], [2, 3]), ([], []), ([0, 4, 5], [0, 4, 5]), ([6, 6, 0, 1, 2, 3, 4, 5, 6], [6])])
def schema_Check.B13 : List Nat := [0, 0, 2, 0, 14, 0, 63, 127]
theorem schema_Check.tab13 : rtab .any (opsOf Try.f11 13) = schema_Check.T13 := by kernel_rfl
theorem schema_Check.bits13 : waitsOk schema_Check.T13.2 schema_Check.B13 = true := by kernel_rfl
set_option maxHeartbeats 8000000 in
set_option maxRecDepth 100000 in
theorem schema_Check.calls (k : Nat) (A0 : Option Addr) (c0 : Nat) (l0 : List (S33)) (r : Int) (w : World) (hr0 : Kd.C k33 w A0 l0.length l0) (hc0 : l0.length ≤ c0) (h : schema_Check.f k l0 = some r) :
    Calls Try.prog 11 #[.slice A0 l0.length c0] w fun e w' => e = .returned (.int .i64 r) ∧ Below w.heap.size w w' := by
  have hu33 := Try.underlying33
  have hu40 := Try.underlying40
  have HR0 := Aside0.mk hr0
  have HC0 := Aside0.mk hc0
  clear hr0 hc0
  have HB := Aside0.mk (Below.refl w.heap.size w)
  have H : (if (l0.length : Int) = 0 then (some 2) else (if (l0.length : Int) > 12 then (some 4) else (schema_Check.l0 k l0 l0 (l0.length : Int) 0))) = some r := h
  clear h
  by_cases c2 : (l0.length : Int) = 0
  · rw [if_pos c2] at H
    have c2b0 : ((l0.length : Int) == 0) = true := beq_iff_eq.mpr c2
    have c2b1 : ((l0.length : Int) != 0) = false := bne_eq_false_iff_eq.mpr c2
    clear c2
    obtain rfl := Option.some.inj H
    go_enter Try.func11, Try.ntmps11
    go_wp2
    go_ret
    exact ⟨by first | rfl | (simp [errW_none, errW_some] <;> rfl) | (simp [*, errW_none, errW_some] <;> rfl), by repeat (first | (with_reducible first | exact HB.out | apply bA_ | apply bN_ | apply bD_) | exact HB.out)⟩
  · rw [if_neg c2] at H
    have c2b0 : ((l0.length : Int) == 0) = false := beq_eq_false_iff_ne.mpr c2
    have c2b1 : ((l0.length : Int) != 0) = true := bne_iff_ne.mpr c2
    have c2b2 : ¬ (l0 = []) := fun h_ => c2 (by rw [h_]; rfl)
    by_cases c3 : (l0.length : Int) > 12
    · rw [if_pos c3] at H
      have c3b0 : decide (12 < (l0.length : Int)) = true := decide_eq_true c3
      have c3b1 : decide (12 < l0.length) = true := decide_eq_true (by omega)
      clear c3
      obtain rfl := Option.some.inj H
      go_enter Try.func11, Try.ntmps11
      go_wp2
      go_ret
      exact ⟨by first | rfl | (simp [errW_none, errW_some] <;> rfl) | (simp [*, errW_none, errW_some] <;> rfl), by repeat (first | (with_reducible first | exact HB.out | apply bA_ | apply bN_ | apply bD_) | exact HB.out)⟩
    · rw [if_neg c3] at H
      have c3b0 : decide (12 < (l0.length : Int)) = false := decide_eq_false c3
      have c3b1 : decide (12 < l0.length) = false := decide_eq_false (by omega)
      clear c3
      have H' := Aside0.mk H
      clear H
      go_enter Try.func11, Try.ntmps11
      go_wp2
      go_loopg [18] k (fun kq v18 w' => ∃ (x18_1 : Int), v18 = .int .i64 x18_1 ∧ Aside0 (schema_Check.l0 kq l0 l0 (l0.length : Int) x18_1 = some r) ∧ Aside0 (kq ≤ k) ∧ Aside0 (Below w.heap.size w w'))
      case atStart => exact ⟨(0), (by first | rfl | (simp; done) | (simp [*]; done)), H', ⟨Nat.le_refl _⟩, ⟨by repeat (first | (with_reducible first | exact HB.out | apply bA_ | apply bN_ | apply bD_) | exact HB.out)⟩⟩
      case round =>
        clear H'
        try clear c1
        try clear c2
        try clear c2b0
        try clear c2b1
        try clear c2b2
        try clear p2
        try clear c3
        try clear c3b0
        try clear c3b1
        obtain ⟨x18_1, rfl, HA, HK1, HB⟩ := hrel
        cases gk with
        | zero => exact absurd HA.out (by simp [schema_Check.l0])
        | succ k1 =>
          have H := HA.out
          clear HA
          simp only [schema_Check.l0] at H
          by_cases c4 : x18_1 < (l0.length : Int)
          · rw [if_pos c4] at H
            have c4b0 : decide (x18_1 < (l0.length : Int)) = true := decide_eq_true c4
            clear c4
            by_cases c5 : 0 ≤ x18_1
            · rw [if_pos c5] at H
              have c5b0 : decide (0 ≤ x18_1) = true := decide_eq_true c5
              clear c5
              by_cases c6 : x18_1 < (l0.length : Int)
              · rw [if_pos c6] at H
                have c6b0 : decide (x18_1 < (l0.length : Int)) = true := decide_eq_true c6
                clear c6
                by_cases c7 : (((rd_T33 l0 x18_1).f0).length : Int) > 6
                · rw [if_pos c7] at H
                  have c7b0 : decide (6 < (((rd_T33 l0 x18_1).f0).length : Int)) = true := decide_eq_true c7
                  have c7b1 : decide (6 < ((rd_T33 l0 x18_1).f0).length) = true := decide_eq_true (by omega)
                  clear c7
                  obtain rfl := Option.some.inj H
                  have p101 : 0 ≤ (x18_1 : Int) := of_decide_eq_true (by first | (with_reducible assumption) | assumption)
                  have q101 : x18_1 < (l0.length : Int) := of_decide_eq_true (by first | (with_reducible assumption) | assumption)
                  obtain ⟨ad101, A101_0, c101_0, e101, hx101_0, hx101_1, hx101_2, hl101_0, hi101_0⟩ := at_T33 HR0.out x18_1 p101 q101
                  cases e101
                  replace hx101_0 := (HB.out.cell (World.block_lt_of_cell? w _ hx101_0)).trans hx101_0
                  replace hx101_1 := (HB.out.cell (World.block_lt_of_cell? w _ hx101_1)).trans hx101_1
                  replace hx101_2 := (HB.out.cell (World.block_lt_of_cell? w _ hx101_2)).trans hx101_2
                  have HR101_0 := Aside0.mk hi101_0
                  have HC101_0 := Aside0.mk hl101_0
                  clear hi101_0 hl101_0
                  replace p101 := eq_true p101
                  replace q101 := eq_true q101
                  go_wp2_with (first | ((with_reducible refine gate_dst (N := 4) rfl ?_); refine box_event ?hg (N := 4) ?hd (cs := #[.slice none 0 0, .bool false, .bool false]) (t := 33) ?hr ?_; (case hd => rfl); (case hg => rfl); (case hr => first | (go_simp; done) | (go_simp; rfl)); intro gb102 hg w8 hbox hb; have n0_ := Aside0.mk (below_step (by repeat (first | (with_reducible first | exact HB.out | apply bA_ | apply bN_ | apply bD_) | exact HB.out)) hb); have n1_ := Aside0.mk (hbox); have n2_ := Aside0.mk ((by rw [hg]; exact (below_size (by repeat (first | (with_reducible first | exact HB.out | apply bA_ | apply bN_ | apply bD_) | exact HB.out))) : w.heap.size ≤ gb102)); have n3_ := Aside0.mk ((by rw [hg]; exact (below_size (by repeat (first | (with_reducible first | exact HB.out | apply bA_ | apply bN_ | apply bD_) | exact HB.out))) : w.heap.size ≤ gb102)); clear HB; have HB := n0_; have BK102 := n1_; have GW102 := n2_; have GE102 := n3_; clear n0_ n1_ n2_ n3_; clear hb hbox hg; have hcz9_0 : w8.cell? ⟨gb102, 0, none⟩ = some (.slice none 0 0) := (blk_cell BK102.out 0).trans rfl; have hcz9_1 : w8.cell? ⟨gb102, 1, none⟩ = some (.bool false) := (blk_cell BK102.out 1).trans rfl; have hcz9_2 : w8.cell? ⟨gb102, 2, none⟩ = some (.bool false) := (blk_cell BK102.out 2).trans rfl; have hfz9_0 := blk_frozen BK102.out 0; have hfz9_1 := blk_frozen BK102.out 1; have hfz9_2 := blk_frozen BK102.out 2))
                  go_ret
                  exact ⟨by first | rfl | (simp [errW_none, errW_some] <;> rfl) | (simp [*, errW_none, errW_some] <;> rfl), by repeat (first | (with_reducible first | exact HB.out | apply bA_ | apply bN_ | apply bD_ | refine below_set ?_ GE102.out) | exact HB.out)⟩
                · rw [if_neg c7] at H
                  have c7b0 : decide (6 < (((rd_T33 l0 x18_1).f0).length : Int)) = false := decide_eq_false c7
                  have c7b1 : decide (6 < ((rd_T33 l0 x18_1).f0).length) = false := decide_eq_false (by omega)
                  clear c7
                  have H' := Aside0.mk H
                  clear H
                  have p101 : 0 ≤ (x18_1 : Int) := of_decide_eq_true (by first | (with_reducible assumption) | assumption)
                  have q101 : x18_1 < (l0.length : Int) := of_decide_eq_true (by first | (with_reducible assumption) | assumption)
                  obtain ⟨ad101, A101_0, c101_0, e101, hx101_0, hx101_1, hx101_2, hl101_0, hi101_0⟩ := at_T33 HR0.out x18_1 p101 q101
                  cases e101
                  replace hx101_0 := (HB.out.cell (World.block_lt_of_cell? w _ hx101_0)).trans hx101_0
                  replace hx101_1 := (HB.out.cell (World.block_lt_of_cell? w _ hx101_1)).trans hx101_1
                  replace hx101_2 := (HB.out.cell (World.block_lt_of_cell? w _ hx101_2)).trans hx101_2
                  have HR101_0 := Aside0.mk hi101_0
                  have HC101_0 := Aside0.mk hl101_0
                  clear hi101_0 hl101_0
                  replace p101 := eq_true p101
                  replace q101 := eq_true q101
                  go_wp2_with (first | ((with_reducible refine gate_dst (N := 4) rfl ?_); refine box_event ?hg (N := 4) ?hd (cs := #[.slice none 0 0, .bool false, .bool false]) (t := 33) ?hr ?_; (case hd => rfl); (case hg => rfl); (case hr => first | (go_simp; done) | (go_simp; rfl)); intro gb102 hg w10 hbox hb; have n0_ := Aside0.mk (below_step (by repeat (first | (with_reducible first | exact HB.out | apply bA_ | apply bN_ | apply bD_) | exact HB.out)) hb); have n1_ := Aside0.mk (hbox); have n2_ := Aside0.mk ((by rw [hg]; exact (below_size (by repeat (first | (with_reducible first | exact HB.out | apply bA_ | apply bN_ | apply bD_) | exact HB.out))) : w.heap.size ≤ gb102)); have n3_ := Aside0.mk ((by rw [hg]; exact (below_size (by repeat (first | (with_reducible first | exact HB.out | apply bA_ | apply bN_ | apply bD_) | exact HB.out))) : w.heap.size ≤ gb102)); clear HB; have HB := n0_; have BK102 := n1_; have GW102 := n2_; have GE102 := n3_; clear n0_ n1_ n2_ n3_; clear hb hbox hg; have hcz11_0 : w10.cell? ⟨gb102, 0, none⟩ = some (.slice none 0 0) := (blk_cell BK102.out 0).trans rfl; have hcz11_1 : w10.cell? ⟨gb102, 1, none⟩ = some (.bool false) := (blk_cell BK102.out 1).trans rfl; have hcz11_2 : w10.cell? ⟨gb102, 2, none⟩ = some (.bool false) := (blk_cell BK102.out 2).trans rfl; have hfz11_0 := blk_frozen BK102.out 0; have hfz11_1 := blk_frozen BK102.out 1; have hfz11_2 := blk_frozen BK102.out 2))
                  go_loopg [29] k1 (fun kq v29 w' => ∃ (x29_2 : Int), v29 = .int .i64 x29_2 ∧ Aside0 (schema_Check.l1 kq l0 l0 (l0.length : Int) x18_1 ((rd_T33 l0 x18_1).f0) (((rd_T33 l0 x18_1).f0).length : Int) x29_2 ((rd_T33 l0 x18_1).f0) ((rd_T33 l0 x18_1).f1) ((rd_T33 l0 x18_1).f2) = some r) ∧ Aside0 (kq ≤ k1) ∧ Aside0 (w'.heap[gb102]? = some (.cells #[(.slice A101_0 ((rd_T33 l0 x18_1).f0).length c101_0), .bool ((rd_T33 l0 x18_1).f1), .bool ((rd_T33 l0 x18_1).f2)] 33 (0, 0))) ∧ Aside0 (Below w.heap.size w w'))
                  case atStart => exact ⟨(0), (by first | rfl | (simp; done) | (simp [*]; done)), H', ⟨Nat.le_refl _⟩, ⟨by (with_reducible repeat (first | refine blk_drewN ?_ _ | refine blk_drew ?_ | refine blk_alloc ?_ _)); refine blk_put (cs := #[.slice A101_0 ((rd_T33 l0 x18_1).f0).length c101_0, .bool ((rd_T33 l0 x18_1).f1), .bool false]) ?_ 2 _ rfl; (with_reducible repeat (first | refine blk_drewN ?_ _ | refine blk_drew ?_ | refine blk_alloc ?_ _)); refine blk_put (cs := #[.slice A101_0 ((rd_T33 l0 x18_1).f0).length c101_0, .bool false, .bool false]) ?_ 1 _ rfl; (with_reducible repeat (first | refine blk_drewN ?_ _ | refine blk_drew ?_ | refine blk_alloc ?_ _)); refine blk_put (cs := #[.slice none 0 0, .bool false, .bool false]) ?_ 0 _ rfl; (with_reducible repeat (first | refine blk_drewN ?_ _ | refine blk_drew ?_ | refine blk_alloc ?_ _)); exact BK102.out⟩, ⟨by repeat (first | (with_reducible first | exact HB.out | apply bA_ | apply bN_ | apply bD_ | refine below_set ?_ GE102.out) | exact HB.out)⟩⟩
                  case round =>
                    clear H'
                    try clear c1
                    try clear p1
                    try clear q1
                    try clear hx1
                    try clear c2
                    try clear c2b0
                    try clear c2b1
                    try clear c2b2
                    try clear p2
                    try clear c3
                    try clear c3b0
                    try clear c3b1
                    try clear c4
                    try clear c4b0
                    try clear c5
                    try clear c5b0
                    try clear c6
                    try clear c6b0
                    try clear c7
                    try clear c7b0
                    try clear c7b1
                    try clear c10
                    try clear p10
                    try clear q10
                    try clear hx10
                    try clear c11
                    try clear hcz11_0
                    try clear hcz11_1
                    try clear hcz11_2
                    try clear hcz9_0
                    try clear hcz9_1
                    try clear hcz9_2
                    try clear hfz11_0
                    try clear hfz11_1
                    try clear hfz11_2
                    try clear hfz9_0
                    try clear hfz9_1
                    try clear hfz9_2
                    try clear hx101_0
                    try clear hx101_1
                    try clear hx101_2
                    try clear p101
                    try clear p2
                    try clear q101
                    obtain ⟨x29_2, rfl, HA, HK2, BK102, HB⟩ := hrel
                    cases gk with
                    | zero => exact absurd HA.out (by simp [schema_Check.l1])
                    | succ k2 =>
                      have H := HA.out
                      clear HA
                      simp only [schema_Check.l1] at H
                      by_cases c12 : x29_2 < (((rd_T33 l0 x18_1).f0).length : Int)
                      · rw [if_pos c12] at H
                        have c12b0 : decide (x29_2 < (((rd_T33 l0 x18_1).f0).length : Int)) = true := decide_eq_true c12
                        clear c12
                        by_cases c13 : 0 ≤ x29_2
                        · rw [if_pos c13] at H
                          have c13b0 : decide (0 ≤ x29_2) = true := decide_eq_true c13
                          clear c13
                          by_cases c14 : x29_2 < (((rd_T33 l0 x18_1).f0).length : Int)
                          · rw [if_pos c14] at H
                            have c14b0 : decide (x29_2 < (((rd_T33 l0 x18_1).f0).length : Int)) = true := decide_eq_true c14
                            clear c14
                            have c15b0 := eq_true (of_decide_eq_true (by first | (with_reducible assumption) | assumption) : 0 ≤ x29_2)
                            by_cases c16 : x29_2 ≤ (((rd_T33 l0 x18_1).f0).length : Int)
                            · rw [if_pos c16] at H
                              have c16b0 := eq_true c16
                              have c16b1 : decide (x29_2 ≤ (((rd_T33 l0 x18_1).f0).length : Int)) = true := decide_eq_true c16
                              clear c16
                              obtain ⟨y105, hy105⟩ : ∃ y_ : List (S40), y_ = (((rd_T33 l0 x18_1).f0).take (x29_2 : Int).toNat) := ⟨_, rfl⟩
                              replace H : ((schema_field.f l0 y105 ((rd_T40 ((rd_T33 l0 x18_1).f0) x29_2).f0.f0) ((rd_T40 ((rd_T33 l0 x18_1).f0) x29_2).f0.f1) ((rd_T40 ((rd_T33 l0 x18_1).f0) x29_2).f1) ((rd_T40 ((rd_T33 l0 x18_1).f0) x29_2).f2)).bind fun t109 => (if t109 = 0 then (schema_Check.l1 k2 l0 l0 (l0.length : Int) x18_1 ((rd_T33 l0 x18_1).f0) (((rd_T33 l0 x18_1).f0).length : Int) (wrap64 (x29_2 + 1)) ((rd_T33 l0 x18_1).f0) ((rd_T33 l0 x18_1).f1) ((rd_T33 l0 x18_1).f2)) else (some t109))) = some r := by first | (rw [hy105]; with_reducible exact H) | (have H2_ := (Option.bind_some _ _).symm.trans H; rw [hy105]; with_reducible exact H2_) | (have H2_ := (Option.bind_some _ _).symm.trans H; with_reducible exact H2_) | with_reducible exact H | (rw [hy105]; exact H) | exact H
                              have Ny105 := Aside0.mk hy105
                              clear hy105
                              replace H := Option.bind_eq_some_iff.mp H
                              obtain ⟨t109, A170, H⟩ := H
                              replace H : (if t109 = 0 then (schema_Check.l1 k2 l0 l0 (l0.length : Int) x18_1 ((rd_T33 l0 x18_1).f0) (((rd_T33 l0 x18_1).f0).length : Int) (wrap64 (x29_2 + 1)) ((rd_T33 l0 x18_1).f0) ((rd_T33 l0 x18_1).f1) ((rd_T33 l0 x18_1).f2)) else (some t109)) = some r := H
                              have A17 := Aside0.mk A170
                              clear A170
                              by_cases c18 : t109 = 0
                              · rw [if_pos c18] at H
                                have c18b0 : (t109 == 0) = true := beq_iff_eq.mpr c18
                                have c18b1 : (t109 != 0) = false := bne_eq_false_iff_eq.mpr c18
                                clear c18
                                have H' := Aside0.mk H
                                clear H
                                have p103 : 0 ≤ (x29_2 : Int) := of_decide_eq_true (by first | (with_reducible assumption) | assumption)
                                have q103 : x29_2 < (((rd_T33 l0 x18_1).f0).length : Int) := of_decide_eq_true (by first | (with_reducible assumption) | assumption)
                                obtain ⟨ad103, A103_1, c103_1, e103, hx103_0, hx103_1, hx103_2, hx103_3, hl103_1, hi103_1⟩ := at_T40 HR101_0.out x29_2 p103 q103
                                cases e103
                                replace hx103_0 := (HB.out.cell (World.block_lt_of_cell? w _ hx103_0)).trans hx103_0
                                replace hx103_1 := (HB.out.cell (World.block_lt_of_cell? w _ hx103_1)).trans hx103_1
                                replace hx103_2 := (HB.out.cell (World.block_lt_of_cell? w _ hx103_2)).trans hx103_2
                                replace hx103_3 := (HB.out.cell (World.block_lt_of_cell? w _ hx103_3)).trans hx103_3
                                have HR103_1 := Aside0.mk hi103_1
                                have HC103_1 := Aside0.mk hl103_1
                                clear hi103_1 hl103_1
                                replace p103 := eq_true p103
                                replace q103 := eq_true q103
                                try go_wp2_with (first | ((with_reducible refine gate_dst (N := 6) rfl ?_); refine box_event ?hg (N := 6) ?hd (cs := #[.bool false, .slice none 0 0, .int .i64 0, .bool false]) (t := 40) ?hr ?_; (case hd => rfl); (case hg => rfl); (case hr => first | (go_simp; done) | (go_simp; rfl)); intro gb104 hg w19 hbox hb; have n0_ := Aside0.mk (blk_below (g := gb102) (o := .cells #[.slice (some ad103) ((rd_T33 l0 x18_1).f0).length c101_0, .bool ((rd_T33 l0 x18_1).f1), .bool ((rd_T33 l0 x18_1).f2)] 33 (0, 0)) (by (with_reducible repeat (first | refine blk_drewN ?_ _ | refine blk_drew ?_ | refine blk_alloc ?_ _)); exact BK102.out) hb); have n1_ := Aside0.mk (below_step (by repeat (first | (with_reducible first | exact HB.out | apply bA_ | apply bN_ | apply bD_ | refine below_set ?_ GE102.out) | exact HB.out)) hb); have n2_ := Aside0.mk (hbox); have n3_ := Aside0.mk ((by rw [hg]; exact (below_size (by repeat (first | (with_reducible first | exact HB.out | apply bA_ | apply bN_ | apply bD_ | refine below_set ?_ GE102.out) | exact HB.out))) : w.heap.size ≤ gb104)); have n4_ := Aside0.mk ((by rw [hg]; exact (below_size (by repeat (first | (with_reducible first | exact HB.out | apply bA_ | apply bN_ | apply bD_ | refine below_set ?_ GE102.out) | exact HB.out))) : w.heap.size ≤ gb104)); have n5_ := Aside0.mk ((by rw [hg]; exact Nat.ne_of_lt (blk_lt (g := gb102) (o := .cells #[.slice (some ad103) ((rd_T33 l0 x18_1).f0).length c101_0, .bool ((rd_T33 l0 x18_1).f1), .bool ((rd_T33 l0 x18_1).f2)] 33 (0, 0)) (by (with_reducible repeat (first | refine blk_drewN ?_ _ | refine blk_drew ?_ | refine blk_alloc ?_ _)); exact BK102.out)) : gb102 ≠ gb104)); have n6_ := Aside0.mk ((by rw [hg]; exact Nat.ne_of_gt (blk_lt (g := gb102) (o := .cells #[.slice (some ad103) ((rd_T33 l0 x18_1).f0).length c101_0, .bool ((rd_T33 l0 x18_1).f1), .bool ((rd_T33 l0 x18_1).f2)] 33 (0, 0)) (by (with_reducible repeat (first | refine blk_drewN ?_ _ | refine blk_drew ?_ | refine blk_alloc ?_ _)); exact BK102.out)) : gb104 ≠ gb102)); clear BK102; clear HB; have BK102 := n0_; have HB := n1_; have BK104 := n2_; have GW104 := n3_; have GE104 := n4_; have NB102_104 := n5_; have NB104_102 := n6_; clear n0_ n1_ n2_ n3_ n4_ n5_ n6_; clear hb hbox hg; have hnb20 := NB104_102.out; have hnc20 := NB102_104.out; have hcz21_0 : w19.cell? ⟨gb104, 0, none⟩ = some (.bool false) := (blk_cell BK104.out 0).trans rfl; have hcz21_1 : w19.cell? ⟨gb104, 1, none⟩ = some (.slice none 0 0) := (blk_cell BK104.out 1).trans rfl; have hcz21_2 : w19.cell? ⟨gb104, 2, none⟩ = some (.int .i64 0) := (blk_cell BK104.out 2).trans rfl; have hcz21_3 : w19.cell? ⟨gb104, 3, none⟩ = some (.bool false) := (blk_cell BK104.out 3).trans rfl; have hfz21_0 := blk_frozen BK104.out 0; have hfz21_1 := blk_frozen BK104.out 1; have hfz21_2 := blk_frozen BK104.out 2; have hfz21_3 := blk_frozen BK104.out 3))
                                have n0_ : Aside0 (((((w19.setCell ⟨gb104, 0, none⟩ (.bool ((rd_T40 ((rd_T33 l0 x18_1).f0) x29_2).f0.f0))).setCell ⟨gb104, 1, none⟩ (.slice A103_1 ((rd_T40 ((rd_T33 l0 x18_1).f0) x29_2).f0.f1).length c103_1)).setCell ⟨gb104, 2, none⟩ (.int .i64 ((rd_T40 ((rd_T33 l0 x18_1).f0) x29_2).f1))).setCell ⟨gb104, 3, none⟩ (.bool ((rd_T40 ((rd_T33 l0 x18_1).f0) x29_2).f2))).heap[gb102]? = some (.cells #[.slice (some ad103) ((rd_T33 l0 x18_1).f0).length c101_0, .bool ((rd_T33 l0 x18_1).f1), .bool ((rd_T33 l0 x18_1).f2)] 33 (0, 0))) := ⟨by (with_reducible repeat (first | refine blk_drewN ?_ _ | refine blk_drew ?_ | refine blk_alloc ?_ _)); refine blk_far ?_ NB102_104.out _; (with_reducible repeat (first | refine blk_drewN ?_ _ | refine blk_drew ?_ | refine blk_alloc ?_ _)); refine blk_far ?_ NB102_104.out _; (with_reducible repeat (first | refine blk_drewN ?_ _ | refine blk_drew ?_ | refine blk_alloc ?_ _)); refine blk_far ?_ NB102_104.out _; (with_reducible repeat (first | refine blk_drewN ?_ _ | refine blk_drew ?_ | refine blk_alloc ?_ _)); refine blk_far ?_ NB102_104.out _; (with_reducible repeat (first | refine blk_drewN ?_ _ | refine blk_drew ?_ | refine blk_alloc ?_ _)); exact BK102.out⟩
                                have n1_ : Aside0 (((((w19.setCell ⟨gb104, 0, none⟩ (.bool ((rd_T40 ((rd_T33 l0 x18_1).f0) x29_2).f0.f0))).setCell ⟨gb104, 1, none⟩ (.slice A103_1 ((rd_T40 ((rd_T33 l0 x18_1).f0) x29_2).f0.f1).length c103_1)).setCell ⟨gb104, 2, none⟩ (.int .i64 ((rd_T40 ((rd_T33 l0 x18_1).f0) x29_2).f1))).setCell ⟨gb104, 3, none⟩ (.bool ((rd_T40 ((rd_T33 l0 x18_1).f0) x29_2).f2))).heap[gb104]? = some (.cells #[.bool ((rd_T40 ((rd_T33 l0 x18_1).f0) x29_2).f0.f0), .slice A103_1 ((rd_T40 ((rd_T33 l0 x18_1).f0) x29_2).f0.f1).length c103_1, .int .i64 ((rd_T40 ((rd_T33 l0 x18_1).f0) x29_2).f1), .bool ((rd_T40 ((rd_T33 l0 x18_1).f0) x29_2).f2)] 40 (0, 0))) := ⟨by (with_reducible repeat (first | refine blk_drewN ?_ _ | refine blk_drew ?_ | refine blk_alloc ?_ _)); refine blk_put (cs := #[.bool ((rd_T40 ((rd_T33 l0 x18_1).f0) x29_2).f0.f0), .slice A103_1 ((rd_T40 ((rd_T33 l0 x18_1).f0) x29_2).f0.f1).length c103_1, .int .i64 ((rd_T40 ((rd_T33 l0 x18_1).f0) x29_2).f1), .bool false]) ?_ 3 _ rfl; (with_reducible repeat (first | refine blk_drewN ?_ _ | refine blk_drew ?_ | refine blk_alloc ?_ _)); refine blk_put (cs := #[.bool ((rd_T40 ((rd_T33 l0 x18_1).f0) x29_2).f0.f0), .slice A103_1 ((rd_T40 ((rd_T33 l0 x18_1).f0) x29_2).f0.f1).length c103_1, .int .i64 0, .bool false]) ?_ 2 _ rfl; (with_reducible repeat (first | refine blk_drewN ?_ _ | refine blk_drew ?_ | refine blk_alloc ?_ _)); refine blk_put (cs := #[.bool ((rd_T40 ((rd_T33 l0 x18_1).f0) x29_2).f0.f0), .slice none 0 0, .int .i64 0, .bool false]) ?_ 1 _ rfl; (with_reducible repeat (first | refine blk_drewN ?_ _ | refine blk_drew ?_ | refine blk_alloc ?_ _)); refine blk_put (cs := #[.bool false, .slice none 0 0, .int .i64 0, .bool false]) ?_ 0 _ rfl; (with_reducible repeat (first | refine blk_drewN ?_ _ | refine blk_drew ?_ | refine blk_alloc ?_ _)); exact BK104.out⟩
                                have n2_ : Aside0 (Below w.heap.size w ((((w19.setCell ⟨gb104, 0, none⟩ (.bool ((rd_T40 ((rd_T33 l0 x18_1).f0) x29_2).f0.f0))).setCell ⟨gb104, 1, none⟩ (.slice A103_1 ((rd_T40 ((rd_T33 l0 x18_1).f0) x29_2).f0.f1).length c103_1)).setCell ⟨gb104, 2, none⟩ (.int .i64 ((rd_T40 ((rd_T33 l0 x18_1).f0) x29_2).f1))).setCell ⟨gb104, 3, none⟩ (.bool ((rd_T40 ((rd_T33 l0 x18_1).f0) x29_2).f2)))) := ⟨by repeat (first | (with_reducible first | exact HB.out | apply bA_ | apply bN_ | apply bD_ | refine below_set ?_ GE102.out | refine below_set ?_ GE104.out) | exact HB.out)⟩
                                (try clear BK102)
                                (try clear BK104)
                                (try clear HB)
                                generalize ((((w19.setCell ⟨gb104, 0, none⟩ (.bool ((rd_T40 ((rd_T33 l0 x18_1).f0) x29_2).f0.f0))).setCell ⟨gb104, 1, none⟩ (.slice A103_1 ((rd_T40 ((rd_T33 l0 x18_1).f0) x29_2).f0.f1).length c103_1)).setCell ⟨gb104, 2, none⟩ (.int .i64 ((rd_T40 ((rd_T33 l0 x18_1).f0) x29_2).f1))).setCell ⟨gb104, 3, none⟩ (.bool ((rd_T40 ((rd_T33 l0 x18_1).f0) x29_2).f2))) = w22 at n0_ n1_ n2_ ⊢
                                have BK102 := n0_
                                have BK104 := n1_
                                have HB := n2_
                                clear n0_ n1_ n2_
                                have n0_ := Aside0.mk (blk_drew BK102.out)
                                have n1_ := Aside0.mk (blk_drew BK104.out)
                                have n2_ := Aside0.mk (bD_ HB.out)
                                clear BK102
                                clear BK104
                                clear HB
                                have BK102 := n0_
                                have BK104 := n1_
                                have HB := n2_
                                clear n0_ n1_ n2_
                                have q24 : (x29_2 : Int) ≤ ((((rd_T33 l0 x18_1).f0).length : Int) : Int) := of_decide_eq_true (by first | (with_reducible assumption) | assumption)
                                obtain ⟨i024, hi024, _, hsz24, _⟩ := info_parts info40
                                have hroom24 : ((rd_T33 l0 x18_1).f0).length ≤ c101_0 := HC101_0.out
                                have hC24 : Kd.C k40 _ (some ad103) ((rd_T33 l0 x18_1).f0).length ((rd_T33 l0 x18_1).f0) := HR101_0.out
                                have hcut24 := cut_to (P := Try.prog) 31 40 .i64 Try.underlying31 hi024 (some ad103) ((rd_T33 l0 x18_1).f0).length c101_0 x29_2 (of_decide_eq_true (by first | (with_reducible assumption) | assumption)) q24 hroom24
                                have hr24 := Kd.C_take (m := (x29_2 : Int).toNat) hC24 (by omega)
                                have hy24 : y105.length = (x29_2 : Int).toNat := (by rw [Ny105.out, List.length_take]; omega)
                                rw [← Ny105.out] at hr24
                                rw [← hy24] at hcut24
                                have HR108 := Aside0.mk hr24
                                have HC108 := Aside0.mk (show y105.length ≤ c101_0 from by omega)
                                clear hr24 hC24 hroom24 hi024 hsz24
                                have KY24 := Aside0.mk hy24
                                clear hy24
                                replace q24 := eq_true q24
                                refine start_ (n := 8) (S := fun w' => w'.cell? ⟨gb102, 0, none⟩ = some (.slice (some ad103) ((rd_T33 l0 x18_1).f0).length c101_0) ∧ w'.cell? ⟨gb102, 1, none⟩ = some (.bool ((rd_T33 l0 x18_1).f1)) ∧ w'.cell? ⟨gb102, 2, none⟩ = some (.bool ((rd_T33 l0 x18_1).f2)) ∧ w'.cell? ⟨gb104, 0, none⟩ = some (.bool ((rd_T40 ((rd_T33 l0 x18_1).f0) x29_2).f0.f0)) ∧ w'.cell? ⟨gb104, 1, none⟩ = some (.slice A103_1 ((rd_T40 ((rd_T33 l0 x18_1).f0) x29_2).f0.f1).length c103_1) ∧ w'.cell? ⟨gb104, 2, none⟩ = some (.int .i64 ((rd_T40 ((rd_T33 l0 x18_1).f0) x29_2).f1)) ∧ w'.cell? ⟨gb104, 3, none⟩ = some (.bool ((rd_T40 ((rd_T33 l0 x18_1).f0) x29_2).f2))) (ds := []) #[false, false, false, false, false, false, false, false] (by kernel_rfl) rfl rfl ⟨(blk_cell BK102.out 0).trans rfl, (blk_cell BK102.out 1).trans rfl, (blk_cell BK102.out 2).trans rfl, (blk_cell BK104.out 0).trans rfl, (blk_cell BK104.out 1).trans rfl, (blk_cell BK104.out 2).trans rfl, (blk_cell BK104.out 3).trans rfl⟩ (fun hHeld => ?_); refine with_tabW schema_Check.tab13 schema_Check.bits13 (fun HT_ HW_ => ?_)
                                generalize w22.drew = w23 at BK102 BK104 HB HR108 hHeld ⊢
                                refine pure_ (i := 0) (N := some 34) (v := ?_) (a' := ?_) #[true, false, false, false, false, false, false, false] rfl rfl (any_of HT_.out (by kernel_rfl)) (fun _ _ _ h => h) (Or.inl ⟨by rfl, ?_⟩) ?_ ?_
                                rotate_left
                                · intro w'
                                  go_simp
                                  with_reducible rfl
                                rotate_left
                                · simp only [Act.put, List.setIfInBounds_toArray, List.set_cons_zero, List.set_cons_succ, i64_w, i32_w]
                                  rfl
                                refine pure_ (i := 1) (N := some 35) (v := ?_) (a' := ?_) #[true, true, false, false, false, false, false, false] rfl rfl (any_of HT_.out (by kernel_rfl)) (fun _ _ _ h => h) (Or.inl ⟨by rfl, ?_⟩) ?_ ?_
                                rotate_left
                                · intro w'
                                  go_simp
                                  with_reducible rfl
                                rotate_left
                                · simp only [Act.put, List.setIfInBounds_toArray, List.set_cons_zero, List.set_cons_succ, i64_w, i32_w]
                                  rfl
                                refine pure_ (i := 3) (N := some 37) (v := ?_) (a' := ?_) #[true, true, false, true, false, false, false, false] rfl rfl (any_of HT_.out (by kernel_rfl)) (fun _ _ _ h => h) (Or.inl ⟨by rfl, ?_⟩) ?_ ?_
                                rotate_left
                                · intro w'
                                  go_simp
                                  with_reducible rfl
                                rotate_left
                                · simp only [Act.put, List.setIfInBounds_toArray, List.set_cons_zero, List.set_cons_succ, i64_w, i32_w]
                                  rfl
                                refine take_ (i := 2) (N := some 36) (v := ?_) (a' := ?_) #[true, true, true, true, false, false, false, false] rfl rfl (take_ofW HT_.out HW_.out (by kernel_rfl)) (fun _ _ _ h => h) (Or.inl ⟨by rfl, ?_⟩) hHeld ?_ ?_
                                rotate_left
                                · rintro w' ⟨s0, s1, s2, s3, s4, s5, s6⟩
                                  go_simp
                                  with_reducible rfl
                                rotate_left
                                · simp only [Act.put, List.setIfInBounds_toArray, List.set_cons_zero, List.set_cons_succ, i64_w, i32_w]
                                  rfl
                                refine pure_ (i := 4) (N := some 38) (v := ?_) (a' := ?_) #[true, true, true, true, true, false, false, false] rfl rfl (any_of HT_.out (by kernel_rfl)) (fun _ _ _ h => h) (Or.inl ⟨by rfl, ?_⟩) ?_ ?_
                                rotate_left
                                · intro w'
                                  go_simp
                                  with_reducible rfl
                                rotate_left
                                · simp only [Act.put, List.setIfInBounds_toArray, List.set_cons_zero, List.set_cons_succ, i64_w, i32_w]
                                  rfl
                                refine take_ (i := 5) (N := some 39) (v := ?_) (a' := ?_) #[true, true, true, true, true, true, false, false] rfl rfl (take_ofW HT_.out HW_.out (by kernel_rfl)) (fun _ _ _ h => h) (Or.inl ⟨by rfl, ?_⟩) hHeld ?_ ?_
                                rotate_left
                                · rintro w' ⟨s0, s1, s2, s3, s4, s5, s6⟩
                                  go_simp
                                  with_reducible rfl
                                rotate_left
                                · simp only [Act.put, List.setIfInBounds_toArray, List.set_cons_zero, List.set_cons_succ, i64_w, i32_w]
                                  rfl
                                refine one_ (i := 6) (N := some 40) #[true, true, true, true, true, true, true, false] rfl rfl (one_of HT_.out (by kernel_rfl)) (by decide) (fun K hK => ?_)
                                refine goes_ Try.func27 (by kernel_rfl) rfl #[.slice (some ad101) l0.length c0, .slice (some ad103) y105.length c101_0, .agg #[.bool ((rd_T40 ((rd_T33 l0 x18_1).f0) x29_2).f0.f0), .slice A103_1 ((rd_T40 ((rd_T33 l0 x18_1).f0) x29_2).f0.f1).length c103_1, .int .i64 ((rd_T40 ((rd_T33 l0 x18_1).f0) x29_2).f1), .bool ((rd_T40 ((rd_T33 l0 x18_1).f0) x29_2).f2)]] (by rfl) rfl rfl (by (try simp only [List.map_toArray, List.map_cons, List.map_nil]); first | done | rfl | (simp only [List.length_drop, List.length_take]; rfl)) ?_
                                with_reducible refine (schema_field.calls _ _ l0 _ _ y105 ((rd_T40 ((rd_T33 l0 x18_1).f0) x29_2).f0.f0) _ _ ((rd_T40 ((rd_T33 l0 x18_1).f0) x29_2).f0.f1) ((rd_T40 ((rd_T33 l0 x18_1).f0) x29_2).f1) ((rd_T40 ((rd_T33 l0 x18_1).f0) x29_2).f2) t109 _ ?side1 ?side2 ?side3 ?side4 ?side5 ?side6 A17.out).mono ?_
                                (case side1 => repeat (first | exact (Kd.C_below HR0.out HB.out) | (with_reducible refine cA_ ?_ _) | (with_reducible refine cN_ ?_ _) | (with_reducible refine cD_ ?_)))
                                (case side2 => exact HC0.out)
                                (case side3 => repeat (first | exact (Kd.C_below HR108.out HB.out) | (with_reducible refine cA_ ?_ _) | (with_reducible refine cN_ ?_ _) | (with_reducible refine cD_ ?_)))
                                (case side4 => exact HC108.out)
                                (case side5 => repeat (first | exact (Kd.C_below HR103_1.out HB.out) | (with_reducible refine cA_ ?_ _) | (with_reducible refine cN_ ?_ _) | (with_reducible refine cD_ ?_)))
                                (case side6 => exact HC103_1.out)
                                rintro e w25 ⟨rfl, hb⟩
                                refine ⟨_, rfl, ?_⟩
                                have n0_ := Aside0.mk (blk_below (g := gb102) (o := .cells #[.slice (some ad103) ((rd_T33 l0 x18_1).f0).length c101_0, .bool ((rd_T33 l0 x18_1).f1), .bool ((rd_T33 l0 x18_1).f2)] 33 (0, 0)) (by (with_reducible repeat (first | refine blk_drewN ?_ _ | refine blk_drew ?_ | refine blk_alloc ?_ _)); exact BK102.out) hb)
                                have n1_ := Aside0.mk (blk_below (g := gb104) (o := .cells #[.bool ((rd_T40 ((rd_T33 l0 x18_1).f0) x29_2).f0.f0), .slice A103_1 ((rd_T40 ((rd_T33 l0 x18_1).f0) x29_2).f0.f1).length c103_1, .int .i64 ((rd_T40 ((rd_T33 l0 x18_1).f0) x29_2).f1), .bool ((rd_T40 ((rd_T33 l0 x18_1).f0) x29_2).f2)] 40 (0, 0)) (by (with_reducible repeat (first | refine blk_drewN ?_ _ | refine blk_drew ?_ | refine blk_alloc ?_ _)); exact BK104.out) hb)
                                have n2_ := Aside0.mk (below_step (by repeat (first | (with_reducible first | exact HB.out | apply bA_ | apply bN_ | apply bD_ | refine below_set ?_ GE102.out | refine below_set ?_ GE104.out) | exact HB.out)) hb)
                                clear BK102
                                clear BK104
                                clear HB
                                have BK102 := n0_
                                have BK104 := n1_
                                have HB := n2_
                                clear n0_ n1_ n2_
                                (try clear hb)
                                (try clear hb2)
                                (try clear hk)
                                (try clear hi)
                                refine hK.out _ _ ⟨(blk_cell BK102.out 0).trans rfl, (blk_cell BK102.out 1).trans rfl, (blk_cell BK102.out 2).trans rfl, (blk_cell BK104.out 0).trans rfl, (blk_cell BK104.out 1).trans rfl, (blk_cell BK104.out 2).trans rfl, (blk_cell BK104.out 3).trans rfl⟩ (fun hHeld => ?_)
                                clear hK K
                                refine norm_ (a' := ?_) ?_ ?_
                                rotate_left
                                · show Act.put _ (some 40) _ = _
                                  simp only [Act.put, List.setIfInBounds_toArray, List.set_cons_zero, List.set_cons_succ, i64_w, i32_w]
                                  rfl
                                refine pure_ (i := 7) (N := some 7) (v := ?_) (a' := ?_) #[true, true, true, true, true, true, true, true] rfl rfl (any_of HT_.out (by kernel_rfl)) (fun _ _ _ h => h) (Or.inl ⟨by rfl, ?_⟩) ?_ ?_
                                rotate_left
                                · intro w'
                                  go_simp
                                  with_reducible rfl
                                rotate_left
                                · simp only [Act.put, List.setIfInBounds_toArray, List.set_cons_zero, List.set_cons_succ, i64_w, i32_w]
                                  rfl
                                refine done_ (done_of HT_.out (by kernel_rfl)) ?_
                                try go_wp2
                                go_roundg k2
                                case measure => have := HK1.out; have := HK2.out; omega
                                case rel => exact ⟨(wrap64 (x29_2 + 1)), (by first | rfl | (simp; done) | (simp [*]; done)), H', ⟨by have := HK1.out; have := HK2.out; omega⟩, ⟨by (with_reducible repeat (first | refine blk_drewN ?_ _ | refine blk_drew ?_ | refine blk_alloc ?_ _)); exact BK102.out⟩, ⟨by repeat (first | (with_reducible first | exact HB.out | apply bA_ | apply bN_ | apply bD_ | refine below_set ?_ GE102.out | refine below_set ?_ GE104.out) | exact HB.out)⟩⟩
                              · rw [if_neg c18] at H
                                have c18b0 : (t109 == 0) = false := beq_eq_false_iff_ne.mpr c18
                                have c18b1 : (t109 != 0) = true := bne_iff_ne.mpr c18
                                obtain rfl := Option.some.inj H
                                have p103 : 0 ≤ (x29_2 : Int) := of_decide_eq_true (by first | (with_reducible assumption) | assumption)
                                have q103 : x29_2 < (((rd_T33 l0 x18_1).f0).length : Int) := of_decide_eq_true (by first | (with_reducible assumption) | assumption)
                                obtain ⟨ad103, A103_1, c103_1, e103, hx103_0, hx103_1, hx103_2, hx103_3, hl103_1, hi103_1⟩ := at_T40 HR101_0.out x29_2 p103 q103
                                cases e103
                                replace hx103_0 := (HB.out.cell (World.block_lt_of_cell? w _ hx103_0)).trans hx103_0
                                replace hx103_1 := (HB.out.cell (World.block_lt_of_cell? w _ hx103_1)).trans hx103_1
                                replace hx103_2 := (HB.out.cell (World.block_lt_of_cell? w _ hx103_2)).trans hx103_2
                                replace hx103_3 := (HB.out.cell (World.block_lt_of_cell? w _ hx103_3)).trans hx103_3
                                have HR103_1 := Aside0.mk hi103_1
                                have HC103_1 := Aside0.mk hl103_1
                                clear hi103_1 hl103_1
                                replace p103 := eq_true p103
                                replace q103 := eq_true q103
                                try go_wp2_with (first | ((with_reducible refine gate_dst (N := 6) rfl ?_); refine box_event ?hg (N := 6) ?hd (cs := #[.bool false, .slice none 0 0, .int .i64 0, .bool false]) (t := 40) ?hr ?_; (case hd => rfl); (case hg => rfl); (case hr => first | (go_simp; done) | (go_simp; rfl)); intro gb104 hg w26 hbox hb; have n0_ := Aside0.mk (blk_below (g := gb102) (o := .cells #[.slice (some ad103) ((rd_T33 l0 x18_1).f0).length c101_0, .bool ((rd_T33 l0 x18_1).f1), .bool ((rd_T33 l0 x18_1).f2)] 33 (0, 0)) (by (with_reducible repeat (first | refine blk_drewN ?_ _ | refine blk_drew ?_ | refine blk_alloc ?_ _)); exact BK102.out) hb); have n1_ := Aside0.mk (below_step (by repeat (first | (with_reducible first | exact HB.out | apply bA_ | apply bN_ | apply bD_ | refine below_set ?_ GE102.out) | exact HB.out)) hb); have n2_ := Aside0.mk (hbox); have n3_ := Aside0.mk ((by rw [hg]; exact (below_size (by repeat (first | (with_reducible first | exact HB.out | apply bA_ | apply bN_ | apply bD_ | refine below_set ?_ GE102.out) | exact HB.out))) : w.heap.size ≤ gb104)); have n4_ := Aside0.mk ((by rw [hg]; exact (below_size (by repeat (first | (with_reducible first | exact HB.out | apply bA_ | apply bN_ | apply bD_ | refine below_set ?_ GE102.out) | exact HB.out))) : w.heap.size ≤ gb104)); have n5_ := Aside0.mk ((by rw [hg]; exact Nat.ne_of_lt (blk_lt (g := gb102) (o := .cells #[.slice (some ad103) ((rd_T33 l0 x18_1).f0).length c101_0, .bool ((rd_T33 l0 x18_1).f1), .bool ((rd_T33 l0 x18_1).f2)] 33 (0, 0)) (by (with_reducible repeat (first | refine blk_drewN ?_ _ | refine blk_drew ?_ | refine blk_alloc ?_ _)); exact BK102.out)) : gb102 ≠ gb104)); have n6_ := Aside0.mk ((by rw [hg]; exact Nat.ne_of_gt (blk_lt (g := gb102) (o := .cells #[.slice (some ad103) ((rd_T33 l0 x18_1).f0).length c101_0, .bool ((rd_T33 l0 x18_1).f1), .bool ((rd_T33 l0 x18_1).f2)] 33 (0, 0)) (by (with_reducible repeat (first | refine blk_drewN ?_ _ | refine blk_drew ?_ | refine blk_alloc ?_ _)); exact BK102.out)) : gb104 ≠ gb102)); clear BK102; clear HB; have BK102 := n0_; have HB := n1_; have BK104 := n2_; have GW104 := n3_; have GE104 := n4_; have NB102_104 := n5_; have NB104_102 := n6_; clear n0_ n1_ n2_ n3_ n4_ n5_ n6_; clear hb hbox hg; have hnb27 := NB104_102.out; have hnc27 := NB102_104.out; have hcz28_0 : w26.cell? ⟨gb104, 0, none⟩ = some (.bool false) := (blk_cell BK104.out 0).trans rfl; have hcz28_1 : w26.cell? ⟨gb104, 1, none⟩ = some (.slice none 0 0) := (blk_cell BK104.out 1).trans rfl; have hcz28_2 : w26.cell? ⟨gb104, 2, none⟩ = some (.int .i64 0) := (blk_cell BK104.out 2).trans rfl; have hcz28_3 : w26.cell? ⟨gb104, 3, none⟩ = some (.bool false) := (blk_cell BK104.out 3).trans rfl; have hfz28_0 := blk_frozen BK104.out 0; have hfz28_1 := blk_frozen BK104.out 1; have hfz28_2 := blk_frozen BK104.out 2; have hfz28_3 := blk_frozen BK104.out 3))
                                have n0_ : Aside0 (((((w26.setCell ⟨gb104, 0, none⟩ (.bool ((rd_T40 ((rd_T33 l0 x18_1).f0) x29_2).f0.f0))).setCell ⟨gb104, 1, none⟩ (.slice A103_1 ((rd_T40 ((rd_T33 l0 x18_1).f0) x29_2).f0.f1).length c103_1)).setCell ⟨gb104, 2, none⟩ (.int .i64 ((rd_T40 ((rd_T33 l0 x18_1).f0) x29_2).f1))).setCell ⟨gb104, 3, none⟩ (.bool ((rd_T40 ((rd_T33 l0 x18_1).f0) x29_2).f2))).heap[gb102]? = some (.cells #[.slice (some ad103) ((rd_T33 l0 x18_1).f0).length c101_0, .bool ((rd_T33 l0 x18_1).f1), .bool ((rd_T33 l0 x18_1).f2)] 33 (0, 0))) := ⟨by (with_reducible repeat (first | refine blk_drewN ?_ _ | refine blk_drew ?_ | refine blk_alloc ?_ _)); refine blk_far ?_ NB102_104.out _; (with_reducible repeat (first | refine blk_drewN ?_ _ | refine blk_drew ?_ | refine blk_alloc ?_ _)); refine blk_far ?_ NB102_104.out _; (with_reducible repeat (first | refine blk_drewN ?_ _ | refine blk_drew ?_ | refine blk_alloc ?_ _)); refine blk_far ?_ NB102_104.out _; (with_reducible repeat (first | refine blk_drewN ?_ _ | refine blk_drew ?_ | refine blk_alloc ?_ _)); refine blk_far ?_ NB102_104.out _; (with_reducible repeat (first | refine blk_drewN ?_ _ | refine blk_drew ?_ | refine blk_alloc ?_ _)); exact BK102.out⟩
                                have n1_ : Aside0 (((((w26.setCell ⟨gb104, 0, none⟩ (.bool ((rd_T40 ((rd_T33 l0 x18_1).f0) x29_2).f0.f0))).setCell ⟨gb104, 1, none⟩ (.slice A103_1 ((rd_T40 ((rd_T33 l0 x18_1).f0) x29_2).f0.f1).length c103_1)).setCell ⟨gb104, 2, none⟩ (.int .i64 ((rd_T40 ((rd_T33 l0 x18_1).f0) x29_2).f1))).setCell ⟨gb104, 3, none⟩ (.bool ((rd_T40 ((rd_T33 l0 x18_1).f0) x29_2).f2))).heap[gb104]? = some (.cells #[.bool ((rd_T40 ((rd_T33 l0 x18_1).f0) x29_2).f0.f0), .slice A103_1 ((rd_T40 ((rd_T33 l0 x18_1).f0) x29_2).f0.f1).length c103_1, .int .i64 ((rd_T40 ((rd_T33 l0 x18_1).f0) x29_2).f1), .bool ((rd_T40 ((rd_T33 l0 x18_1).f0) x29_2).f2)] 40 (0, 0))) := ⟨by (with_reducible repeat (first | refine blk_drewN ?_ _ | refine blk_drew ?_ | refine blk_alloc ?_ _)); refine blk_put (cs := #[.bool ((rd_T40 ((rd_T33 l0 x18_1).f0) x29_2).f0.f0), .slice A103_1 ((rd_T40 ((rd_T33 l0 x18_1).f0) x29_2).f0.f1).length c103_1, .int .i64 ((rd_T40 ((rd_T33 l0 x18_1).f0) x29_2).f1), .bool false]) ?_ 3 _ rfl; (with_reducible repeat (first | refine blk_drewN ?_ _ | refine blk_drew ?_ | refine blk_alloc ?_ _)); refine blk_put (cs := #[.bool ((rd_T40 ((rd_T33 l0 x18_1).f0) x29_2).f0.f0), .slice A103_1 ((rd_T40 ((rd_T33 l0 x18_1).f0) x29_2).f0.f1).length c103_1, .int .i64 0, .bool false]) ?_ 2 _ rfl; (with_reducible repeat (first | refine blk_drewN ?_ _ | refine blk_drew ?_ | refine blk_alloc ?_ _)); refine blk_put (cs := #[.bool ((rd_T40 ((rd_T33 l0 x18_1).f0) x29_2).f0.f0), .slice none 0 0, .int .i64 0, .bool false]) ?_ 1 _ rfl; (with_reducible repeat (first | refine blk_drewN ?_ _ | refine blk_drew ?_ | refine blk_alloc ?_ _)); refine blk_put (cs := #[.bool false, .slice none 0 0, .int .i64 0, .bool false]) ?_ 0 _ rfl; (with_reducible repeat (first | refine blk_drewN ?_ _ | refine blk_drew ?_ | refine blk_alloc ?_ _)); exact BK104.out⟩
                                have n2_ : Aside0 (Below w.heap.size w ((((w26.setCell ⟨gb104, 0, none⟩ (.bool ((rd_T40 ((rd_T33 l0 x18_1).f0) x29_2).f0.f0))).setCell ⟨gb104, 1, none⟩ (.slice A103_1 ((rd_T40 ((rd_T33 l0 x18_1).f0) x29_2).f0.f1).length c103_1)).setCell ⟨gb104, 2, none⟩ (.int .i64 ((rd_T40 ((rd_T33 l0 x18_1).f0) x29_2).f1))).setCell ⟨gb104, 3, none⟩ (.bool ((rd_T40 ((rd_T33 l0 x18_1).f0) x29_2).f2)))) := ⟨by repeat (first | (with_reducible first | exact HB.out | apply bA_ | apply bN_ | apply bD_ | refine below_set ?_ GE102.out | refine below_set ?_ GE104.out) | exact HB.out)⟩
                                (try clear BK102)
                                (try clear BK104)
                                (try clear HB)
                                generalize ((((w26.setCell ⟨gb104, 0, none⟩ (.bool ((rd_T40 ((rd_T33 l0 x18_1).f0) x29_2).f0.f0))).setCell ⟨gb104, 1, none⟩ (.slice A103_1 ((rd_T40 ((rd_T33 l0 x18_1).f0) x29_2).f0.f1).length c103_1)).setCell ⟨gb104, 2, none⟩ (.int .i64 ((rd_T40 ((rd_T33 l0 x18_1).f0) x29_2).f1))).setCell ⟨gb104, 3, none⟩ (.bool ((rd_T40 ((rd_T33 l0 x18_1).f0) x29_2).f2))) = w29 at n0_ n1_ n2_ ⊢
                                have BK102 := n0_
                                have BK104 := n1_
                                have HB := n2_
                                clear n0_ n1_ n2_
                                have n0_ := Aside0.mk (blk_drew BK102.out)
                                have n1_ := Aside0.mk (blk_drew BK104.out)
                                have n2_ := Aside0.mk (bD_ HB.out)
                                clear BK102
                                clear BK104
                                clear HB
                                have BK102 := n0_
                                have BK104 := n1_
                                have HB := n2_
                                clear n0_ n1_ n2_
                                have q31 : (x29_2 : Int) ≤ ((((rd_T33 l0 x18_1).f0).length : Int) : Int) := of_decide_eq_true (by first | (with_reducible assumption) | assumption)
                                obtain ⟨i031, hi031, _, hsz31, _⟩ := info_parts info40
                                have hroom31 : ((rd_T33 l0 x18_1).f0).length ≤ c101_0 := HC101_0.out
                                have hC31 : Kd.C k40 _ (some ad103) ((rd_T33 l0 x18_1).f0).length ((rd_T33 l0 x18_1).f0) := HR101_0.out
                                have hcut31 := cut_to (P := Try.prog) 31 40 .i64 Try.underlying31 hi031 (some ad103) ((rd_T33 l0 x18_1).f0).length c101_0 x29_2 (of_decide_eq_true (by first | (with_reducible assumption) | assumption)) q31 hroom31
                                have hr31 := Kd.C_take (m := (x29_2 : Int).toNat) hC31 (by omega)
                                have hy31 : y105.length = (x29_2 : Int).toNat := (by rw [Ny105.out, List.length_take]; omega)
                                rw [← Ny105.out] at hr31
                                rw [← hy31] at hcut31
                                have HR108 := Aside0.mk hr31
                                have HC108 := Aside0.mk (show y105.length ≤ c101_0 from by omega)
                                clear hr31 hC31 hroom31 hi031 hsz31
                                have KY31 := Aside0.mk hy31
                                clear hy31
                                replace q31 := eq_true q31
                                refine start_ (n := 8) (S := fun w' => w'.cell? ⟨gb102, 0, none⟩ = some (.slice (some ad103) ((rd_T33 l0 x18_1).f0).length c101_0) ∧ w'.cell? ⟨gb102, 1, none⟩ = some (.bool ((rd_T33 l0 x18_1).f1)) ∧ w'.cell? ⟨gb102, 2, none⟩ = some (.bool ((rd_T33 l0 x18_1).f2)) ∧ w'.cell? ⟨gb104, 0, none⟩ = some (.bool ((rd_T40 ((rd_T33 l0 x18_1).f0) x29_2).f0.f0)) ∧ w'.cell? ⟨gb104, 1, none⟩ = some (.slice A103_1 ((rd_T40 ((rd_T33 l0 x18_1).f0) x29_2).f0.f1).length c103_1) ∧ w'.cell? ⟨gb104, 2, none⟩ = some (.int .i64 ((rd_T40 ((rd_T33 l0 x18_1).f0) x29_2).f1)) ∧ w'.cell? ⟨gb104, 3, none⟩ = some (.bool ((rd_T40 ((rd_T33 l0 x18_1).f0) x29_2).f2))) (ds := []) #[false, false, false, false, false, false, false, false] (by kernel_rfl) rfl rfl ⟨(blk_cell BK102.out 0).trans rfl, (blk_cell BK102.out 1).trans rfl, (blk_cell BK102.out 2).trans rfl, (blk_cell BK104.out 0).trans rfl, (blk_cell BK104.out 1).trans rfl, (blk_cell BK104.out 2).trans rfl, (blk_cell BK104.out 3).trans rfl⟩ (fun hHeld => ?_); refine with_tabW schema_Check.tab13 schema_Check.bits13 (fun HT_ HW_ => ?_)
                                generalize w29.drew = w30 at BK102 BK104 HB HR108 hHeld ⊢
                                refine pure_ (i := 0) (N := some 34) (v := ?_) (a' := ?_) #[true, false, false, false, false, false, false, false] rfl rfl (any_of HT_.out (by kernel_rfl)) (fun _ _ _ h => h) (Or.inl ⟨by rfl, ?_⟩) ?_ ?_
                                rotate_left
                                · intro w'
                                  go_simp
                                  with_reducible rfl
                                rotate_left
                                · simp only [Act.put, List.setIfInBounds_toArray, List.set_cons_zero, List.set_cons_succ, i64_w, i32_w]
                                  rfl
                                refine pure_ (i := 1) (N := some 35) (v := ?_) (a' := ?_) #[true, true, false, false, false, false, false, false] rfl rfl (any_of HT_.out (by kernel_rfl)) (fun _ _ _ h => h) (Or.inl ⟨by rfl, ?_⟩) ?_ ?_
                                rotate_left
                                · intro w'
                                  go_simp
                                  with_reducible rfl
                                rotate_left
                                · simp only [Act.put, List.setIfInBounds_toArray, List.set_cons_zero, List.set_cons_succ, i64_w, i32_w]
                                  rfl
                                refine pure_ (i := 3) (N := some 37) (v := ?_) (a' := ?_) #[true, true, false, true, false, false, false, false] rfl rfl (any_of HT_.out (by kernel_rfl)) (fun _ _ _ h => h) (Or.inl ⟨by rfl, ?_⟩) ?_ ?_
                                rotate_left
                                · intro w'
                                  go_simp
                                  with_reducible rfl
                                rotate_left
                                · simp only [Act.put, List.setIfInBounds_toArray, List.set_cons_zero, List.set_cons_succ, i64_w, i32_w]
                                  rfl
                                refine take_ (i := 2) (N := some 36) (v := ?_) (a' := ?_) #[true, true, true, true, false, false, false, false] rfl rfl (take_ofW HT_.out HW_.out (by kernel_rfl)) (fun _ _ _ h => h) (Or.inl ⟨by rfl, ?_⟩) hHeld ?_ ?_
                                rotate_left
                                · rintro w' ⟨s0, s1, s2, s3, s4, s5, s6⟩
                                  go_simp
                                  with_reducible rfl
                                rotate_left
                                · simp only [Act.put, List.setIfInBounds_toArray, List.set_cons_zero, List.set_cons_succ, i64_w, i32_w]
                                  rfl
                                refine pure_ (i := 4) (N := some 38) (v := ?_) (a' := ?_) #[true, true, true, true, true, false, false, false] rfl rfl (any_of HT_.out (by kernel_rfl)) (fun _ _ _ h => h) (Or.inl ⟨by rfl, ?_⟩) ?_ ?_
                                rotate_left
                                · intro w'
                                  go_simp
                                  with_reducible rfl
                                rotate_left
                                · simp only [Act.put, List.setIfInBounds_toArray, List.set_cons_zero, List.set_cons_succ, i64_w, i32_w]
                                  rfl
                                refine take_ (i := 5) (N := some 39) (v := ?_) (a' := ?_) #[true, true, true, true, true, true, false, false] rfl rfl (take_ofW HT_.out HW_.out (by kernel_rfl)) (fun _ _ _ h => h) (Or.inl ⟨by rfl, ?_⟩) hHeld ?_ ?_
                                rotate_left
                                · rintro w' ⟨s0, s1, s2, s3, s4, s5, s6⟩
                                  go_simp
                                  with_reducible rfl
                                rotate_left
                                · simp only [Act.put, List.setIfInBounds_toArray, List.set_cons_zero, List.set_cons_succ, i64_w, i32_w]
                                  rfl
                                refine one_ (i := 6) (N := some 40) #[true, true, true, true, true, true, true, false] rfl rfl (one_of HT_.out (by kernel_rfl)) (by decide) (fun K hK => ?_)
                                refine goes_ Try.func27 (by kernel_rfl) rfl #[.slice (some ad101) l0.length c0, .slice (some ad103) y105.length c101_0, .agg #[.bool ((rd_T40 ((rd_T33 l0 x18_1).f0) x29_2).f0.f0), .slice A103_1 ((rd_T40 ((rd_T33 l0 x18_1).f0) x29_2).f0.f1).length c103_1, .int .i64 ((rd_T40 ((rd_T33 l0 x18_1).f0) x29_2).f1), .bool ((rd_T40 ((rd_T33 l0 x18_1).f0) x29_2).f2)]] (by rfl) rfl rfl (by (try simp only [List.map_toArray, List.map_cons, List.map_nil]); first | done | rfl | (simp only [List.length_drop, List.length_take]; rfl)) ?_
                                with_reducible refine (schema_field.calls _ _ l0 _ _ y105 ((rd_T40 ((rd_T33 l0 x18_1).f0) x29_2).f0.f0) _ _ ((rd_T40 ((rd_T33 l0 x18_1).f0) x29_2).f0.f1) ((rd_T40 ((rd_T33 l0 x18_1).f0) x29_2).f1) ((rd_T40 ((rd_T33 l0 x18_1).f0) x29_2).f2) t109 _ ?side1 ?side2 ?side3 ?side4 ?side5 ?side6 A17.out).mono ?_
                                (case side1 => repeat (first | exact (Kd.C_below HR0.out HB.out) | (with_reducible refine cA_ ?_ _) | (with_reducible refine cN_ ?_ _) | (with_reducible refine cD_ ?_)))
                                (case side2 => exact HC0.out)
                                (case side3 => repeat (first | exact (Kd.C_below HR108.out HB.out) | (with_reducible refine cA_ ?_ _) | (with_reducible refine cN_ ?_ _) | (with_reducible refine cD_ ?_)))
                                (case side4 => exact HC108.out)
                                (case side5 => repeat (first | exact (Kd.C_below HR103_1.out HB.out) | (with_reducible refine cA_ ?_ _) | (with_reducible refine cN_ ?_ _) | (with_reducible refine cD_ ?_)))
                                (case side6 => exact HC103_1.out)
                                rintro e w32 ⟨rfl, hb⟩
                                refine ⟨_, rfl, ?_⟩
                                have n0_ := Aside0.mk (blk_below (g := gb102) (o := .cells #[.slice (some ad103) ((rd_T33 l0 x18_1).f0).length c101_0, .bool ((rd_T33 l0 x18_1).f1), .bool ((rd_T33 l0 x18_1).f2)] 33 (0, 0)) (by (with_reducible repeat (first | refine blk_drewN ?_ _ | refine blk_drew ?_ | refine blk_alloc ?_ _)); exact BK102.out) hb)
                                have n1_ := Aside0.mk (blk_below (g := gb104) (o := .cells #[.bool ((rd_T40 ((rd_T33 l0 x18_1).f0) x29_2).f0.f0), .slice A103_1 ((rd_T40 ((rd_T33 l0 x18_1).f0) x29_2).f0.f1).length c103_1, .int .i64 ((rd_T40 ((rd_T33 l0 x18_1).f0) x29_2).f1), .bool ((rd_T40 ((rd_T33 l0 x18_1).f0) x29_2).f2)] 40 (0, 0)) (by (with_reducible repeat (first | refine blk_drewN ?_ _ | refine blk_drew ?_ | refine blk_alloc ?_ _)); exact BK104.out) hb)
                                have n2_ := Aside0.mk (below_step (by repeat (first | (with_reducible first | exact HB.out | apply bA_ | apply bN_ | apply bD_ | refine below_set ?_ GE102.out | refine below_set ?_ GE104.out) | exact HB.out)) hb)
                                clear BK102
                                clear BK104
                                clear HB
                                have BK102 := n0_
                                have BK104 := n1_
                                have HB := n2_
                                clear n0_ n1_ n2_
                                (try clear hb)
                                (try clear hb2)
                                (try clear hk)
                                (try clear hi)
                                refine hK.out _ _ ⟨(blk_cell BK102.out 0).trans rfl, (blk_cell BK102.out 1).trans rfl, (blk_cell BK102.out 2).trans rfl, (blk_cell BK104.out 0).trans rfl, (blk_cell BK104.out 1).trans rfl, (blk_cell BK104.out 2).trans rfl, (blk_cell BK104.out 3).trans rfl⟩ (fun hHeld => ?_)
                                clear hK K
                                refine norm_ (a' := ?_) ?_ ?_
                                rotate_left
                                · show Act.put _ (some 40) _ = _
                                  simp only [Act.put, List.setIfInBounds_toArray, List.set_cons_zero, List.set_cons_succ, i64_w, i32_w]
                                  rfl
                                refine pure_ (i := 7) (N := some 7) (v := ?_) (a' := ?_) #[true, true, true, true, true, true, true, true] rfl rfl (any_of HT_.out (by kernel_rfl)) (fun _ _ _ h => h) (Or.inl ⟨by rfl, ?_⟩) ?_ ?_
                                rotate_left
                                · intro w'
                                  go_simp
                                  with_reducible rfl
                                rotate_left
                                · simp only [Act.put, List.setIfInBounds_toArray, List.set_cons_zero, List.set_cons_succ, i64_w, i32_w]
                                  rfl
                                refine done_ (done_of HT_.out (by kernel_rfl)) ?_
                                try go_wp2
                                go_ret
                                exact ⟨by first | rfl | (simp [errW_none, errW_some] <;> rfl) | (simp [*, errW_none, errW_some] <;> rfl), by repeat (first | (with_reducible first | exact HB.out | apply bA_ | apply bN_ | apply bD_ | refine below_set ?_ GE102.out | refine below_set ?_ GE104.out) | exact HB.out)⟩
                            · rw [if_neg c16] at H
                              exact absurd H (by simp)
                          · rw [if_neg c14] at H
                            exact absurd H (by simp)
                        · rw [if_neg c13] at H
                          exact absurd H (by simp)
                      · rw [if_neg c12] at H
                        have c12b0 : decide (x29_2 < (((rd_T33 l0 x18_1).f0).length : Int)) = false := decide_eq_false c12
                        clear c12
                        have H' := Aside0.mk H
                        clear H
                        go_wp2
                        go_roundg k2
                        case measure => have := HK1.out; have := HK2.out; omega
                        case rel => exact ⟨(wrap64 (x18_1 + 1)), (by first | rfl | (simp; done) | (simp [*]; done)), H', ⟨by have := HK1.out; have := HK2.out; omega⟩, ⟨by repeat (first | (with_reducible first | exact HB.out | apply bA_ | apply bN_ | apply bD_ | refine below_set ?_ GE102.out) | exact HB.out)⟩⟩
              · rw [if_neg c6] at H
                exact absurd H (by simp)
            · rw [if_neg c5] at H
              exact absurd H (by simp)
          · rw [if_neg c4] at H
            have c4b0 : decide (x18_1 < (l0.length : Int)) = false := decide_eq_false c4
            clear c4
            obtain rfl := Option.some.inj H
            go_wp2
            go_ret
            exact ⟨by first | rfl | (simp [errW_none, errW_some] <;> rfl) | (simp [*, errW_none, errW_some] <;> rfl), by repeat (first | (with_reducible first | exact HB.out | apply bA_ | apply bN_ | apply bD_) | exact HB.out)⟩

end Go.Proofs.Ytoihiehoolehiaa.PX
-- written by wip/tools/hybrid.py (over the kit's print.py, with functions proved by hand beside it) for this claim
namespace Go.Proofs.Ytoihiehoolehiaa.PX
open Go.RowKit Go.Proofs.YtoihiehoolehiaaW.PrintWords Go.Proofs.YtoihiehoolehiaaW.PrintLast Go.Proofs.YtoihiehoolehiaaW.PrintMore
attribute [local go_sem] max2_int min2_int max_two min_two max_three min_three max_four min_four   -- for this text's walks alone
set_option linter.unusedVariables false
set_option linter.unusedSimpArgs false

attribute [local go_sem] run_field_87_0
/-! ### cadencelaw4_known: function 8 -/
def cadencelaw4_known.f (k : Nat)  : Option (Bool) := (some (([(⟨([] : List (S40)), false, false⟩ : S33)] : List (S33)) : List (S33))).bind fun y110 => ((schema_Check.f k y110).bind fun t113 => (if t113 = 0 then ((schema_Fits.f y110 0 ([] : List (S53))).bind fun t114 => (if t114 = true then ((schema_Fits.f y110 0 (([(⟨(⟨#[97]⟩ : ByteArray), ([] : List (S53))⟩ : S53)] : List (S53)))).bind fun t118 => (if t118 = true then (some false) else ((schema_To.f y110 0 (⟨#[97]⟩ : ByteArray)).bind fun t119 => (some (t119 == (-1)))))) else (some false))) else (some false)))
theorem cadencelaw4_known.mono : ∀ k, LeO (cadencelaw4_known.f k ) (cadencelaw4_known.f (k + 1) ) := by
  intro  k
  unfold cadencelaw4_known.f
  repeat' first
      | (with_reducible exact schema_Check.mono _ _)
      | (with_reducible exact LeO.refl _)
      | (with_reducible exact LeO.none _)
      | (with_reducible refine LeO.ite ?_ ?_)
      | (with_reducible refine LeO.bind ?_ (fun _ => ?_))
      | exact schema_Check.mono _ _
      | exact LeO.none _
      | refine LeO.ite ?_ ?_
      | refine LeO.bind ?_ (fun _ => ?_)
set_option maxHeartbeats 8000000 in
set_option maxRecDepth 100000 in
theorem cadencelaw4_known.calls (k : Nat)  (r : Bool) (w : World) (h : cadencelaw4_known.f k  = some r) :
    Calls Try.prog 8 #[] w fun e w' => e = .returned (.bool r) ∧ Below w.heap.size w w' := by
  have hu33 := Try.underlying33
  have hu53 := Try.underlying53
  have HB := Aside0.mk (Below.refl w.heap.size w)
  have H : ((some (([(⟨([] : List (S40)), false, false⟩ : S33)] : List (S33)) : List (S33))).bind fun y110 => ((schema_Check.f k y110).bind fun t113 => (if t113 = 0 then ((schema_Fits.f y110 0 ([] : List (S53))).bind fun t114 => (if t114 = true then ((schema_Fits.f y110 0 (([(⟨(⟨#[97]⟩ : ByteArray), ([] : List (S53))⟩ : S53)] : List (S53)))).bind fun t118 => (if t118 = true then (some false) else ((schema_To.f y110 0 (⟨#[97]⟩ : ByteArray)).bind fun t119 => (some (t119 == (-1)))))) else (some false))) else (some false)))) = some r := h
  clear h
  obtain ⟨y110, hy110⟩ : ∃ y_ : List (S33), y_ = (([(⟨([] : List (S40)), false, false⟩ : S33)] : List (S33))) := ⟨_, rfl⟩
  replace H : ((schema_Check.f k y110).bind fun t113 => (if t113 = 0 then ((schema_Fits.f y110 0 ([] : List (S53))).bind fun t114 => (if t114 = true then ((schema_Fits.f y110 0 (([(⟨(⟨#[97]⟩ : ByteArray), ([] : List (S53))⟩ : S53)] : List (S53)))).bind fun t118 => (if t118 = true then (some false) else ((schema_To.f y110 0 (⟨#[97]⟩ : ByteArray)).bind fun t119 => (some (t119 == (-1)))))) else (some false))) else (some false))) = some r := by first | (rw [hy110]; with_reducible exact H) | (have H2_ := (Option.bind_some _ _).symm.trans H; rw [hy110]; with_reducible exact H2_) | (have H2_ := (Option.bind_some _ _).symm.trans H; with_reducible exact H2_) | with_reducible exact H | (rw [hy110]; exact H) | exact H
  have Ny110 := Aside0.mk hy110
  clear hy110
  replace H := Option.bind_eq_some_iff.mp H
  obtain ⟨t113, A10, H⟩ := H
  replace H : (if t113 = 0 then ((schema_Fits.f y110 0 ([] : List (S53))).bind fun t114 => (if t114 = true then ((schema_Fits.f y110 0 (([(⟨(⟨#[97]⟩ : ByteArray), ([] : List (S53))⟩ : S53)] : List (S53)))).bind fun t118 => (if t118 = true then (some false) else ((schema_To.f y110 0 (⟨#[97]⟩ : ByteArray)).bind fun t119 => (some (t119 == (-1)))))) else (some false))) else (some false)) = some r := H
  have A1 := Aside0.mk A10
  clear A10
  by_cases c2 : t113 = 0
  · rw [if_pos c2] at H
    have c2b0 : (t113 == 0) = true := beq_iff_eq.mpr c2
    have c2b1 : (t113 != 0) = false := bne_eq_false_iff_eq.mpr c2
    clear c2
    replace H := Option.bind_eq_some_iff.mp H
    obtain ⟨t114, A30, H⟩ := H
    replace H : (if t114 = true then ((schema_Fits.f y110 0 (([(⟨(⟨#[97]⟩ : ByteArray), ([] : List (S53))⟩ : S53)] : List (S53)))).bind fun t118 => (if t118 = true then (some false) else ((schema_To.f y110 0 (⟨#[97]⟩ : ByteArray)).bind fun t119 => (some (t119 == (-1)))))) else (some false)) = some r := H
    have A3 := Aside0.mk A30
    clear A30
    by_cases c4 : t114 = true
    · subst c4
      have H1 : ((schema_Fits.f y110 0 (([(⟨(⟨#[97]⟩ : ByteArray), ([] : List (S53))⟩ : S53)] : List (S53)))).bind fun t118 => (if t118 = true then (some false) else ((schema_To.f y110 0 (⟨#[97]⟩ : ByteArray)).bind fun t119 => (some (t119 == (-1)))))) = some r := by rw [if_pos rfl] at H; exact H
      clear H
      have H := H1
      clear H1
      obtain ⟨y115, hy115⟩ : ∃ y_ : List (S53), y_ = (([(⟨(⟨#[97]⟩ : ByteArray), ([] : List (S53))⟩ : S53)] : List (S53))) := ⟨_, rfl⟩
      replace H : ((schema_Fits.f y110 0 y115).bind fun t118 => (if t118 = true then (some false) else ((schema_To.f y110 0 (⟨#[97]⟩ : ByteArray)).bind fun t119 => (some (t119 == (-1)))))) = some r := by first | (rw [hy115]; with_reducible exact H) | (have H2_ := (Option.bind_some _ _).symm.trans H; rw [hy115]; with_reducible exact H2_) | (have H2_ := (Option.bind_some _ _).symm.trans H; with_reducible exact H2_) | with_reducible exact H | (rw [hy115]; exact H) | exact H
      have Ny115 := Aside0.mk hy115
      clear hy115
      replace H := Option.bind_eq_some_iff.mp H
      obtain ⟨t118, A50, H⟩ := H
      replace H : (if t118 = true then (some false) else ((schema_To.f y110 0 (⟨#[97]⟩ : ByteArray)).bind fun t119 => (some (t119 == (-1))))) = some r := H
      have A5 := Aside0.mk A50
      clear A50
      by_cases c6 : t118 = true
      · subst c6
        have H1 : (some false) = some r := by rw [if_pos rfl] at H; exact H
        clear H
        have H := H1
        clear H1
        obtain rfl := Option.some.inj H
        go_enter Try.func8, Try.ntmps8
        go_wp2_with (first | ((with_reducible refine gate_dst (N := 3) rfl ?_); (try (refine gate_guard (by rfl) ?_; dsimp only)); refine Kd.R_lit k33 _ 33 ?hg (N := 3) ?hd (xs := ([(⟨([] : List (S40)), false, false⟩ : S33)] : List (S33))) (inner := [.slice none 0 0, .bool false, .bool false]) (ok := fun _ => True) (okp := fun _ => True) ?hr ?hp (fun _ hk => hk) trivial (Below.refl _ _) (Nat.le_refl _) (by simp) ?_; (case hd => rfl); (case hg => rfl); (case hr => first | (go_simp; done) | (go_simp; rfl)); (case hp => exact (Reps.c3 (show Kd.M k33 _ _ _ (⟨([] : List (S40)), false, false⟩ : S33) [.slice none 0 0, .bool false, .bool false] from (k33_mkM _ _ _ (⟨([] : List (S40)), false, false⟩ : S33) (Kd.R_nil _ _ _ _ _))) (Reps.none _ _))); intro v111 w7 ho8 hb hg_ hnew_; clear hg_ hnew_; (first | rw [← Ny110.out] at ho8 | (simp only [Int.reduceToNat] at ho8; rw [← Ny110.out] at ho8)); have n0_ := Aside0.mk (Kd.R_lower ho8 (below_size (by repeat (first | (with_reducible first | exact HB.out | apply bA_ | apply bN_ | apply bD_) | exact HB.out)))); have n1_ := Aside0.mk (below_step (by repeat (first | (with_reducible first | exact HB.out | apply bA_ | apply bN_ | apply bD_) | exact HB.out)) hb); clear HB; have HO112 := n0_; have HB := n1_; clear n0_ n1_; clear hb ho8; obtain ⟨Ao9, co9, eo9⟩ := Kd.R_slice HO112.out; subst eo9) | ((with_reducible refine gate_callee (f := 11) rfl ?_); refine goesL_ (some 5) rfl rfl Try.func11 (by kernel_rfl) rfl #[.slice Ao9 y110.length co9] rfl (by (try simp only [List.map_toArray, List.map_cons, List.map_nil]); first | done | rfl | (simp only [List.length_drop, List.length_take]; rfl)) ?_; (with_reducible refine (schema_Check.calls k _ _ y110 t113 _ ?side1 ?side2 A1.out).mono ?_); (case side1 => repeat (first | exact (Kd.R_reads' HO112.out).2.2 | (with_reducible refine cA_ ?_ _) | (with_reducible refine cN_ ?_ _) | (with_reducible refine cD_ ?_))); (case side2 => exact (Kd.R_reads' HO112.out).2.1); rintro e w10 ⟨rfl, hb⟩; refine ⟨_, rfl, ?_⟩; have n0_ := Aside0.mk (Kd.R_below (by (with_reducible repeat (first | apply rA_ | apply rN_ | apply rD_)); exact HO112.out) hb); have n1_ := Aside0.mk (below_step (by repeat (first | (with_reducible first | exact HB.out | apply bA_ | apply bN_ | apply bD_) | exact HB.out)) hb); clear HO112; clear HB; have HO112 := n0_; have HB := n1_; clear n0_ n1_; (try clear hb); (try clear hb2); (try clear hk); (try clear hi)) | ((with_reducible refine gate_dst (N := 14) rfl ?_); (try (refine gate_guard (by rfl) ?_; dsimp only)); refine Kd.R_lit k53 _ 53 ?hg (N := 14) ?hd (xs := ([(⟨(⟨#[97]⟩ : ByteArray), ([] : List (S53))⟩ : S53)] : List (S53))) (inner := [.string (⟨#[97]⟩ : ByteArray), .slice none 0 0]) (ok := fun _ => True) (okp := fun _ => True) ?hr ?hp (fun _ hk => hk) trivial (Below.refl _ _) (Nat.le_refl _) (by simp) ?_; (case hd => rfl); (case hg => rfl); (case hr => first | (go_simp; done) | (go_simp; rfl)); (case hp => exact (Reps.c2 (show Kd.M k53 _ _ _ (⟨(⟨#[97]⟩ : ByteArray), ([] : List (S53))⟩ : S53) [.string (⟨#[97]⟩ : ByteArray), .slice none 0 0] from (k53_mkM _ _ _ (⟨(⟨#[97]⟩ : ByteArray), ([] : List (S53))⟩ : S53) (Kd.R_nil _ _ _ _ _))) (Reps.none _ _))); intro v116 w12 ho13 hb hg_ hnew_; clear hg_ hnew_; (first | rw [← Ny115.out] at ho13 | (simp only [Int.reduceToNat] at ho13; rw [← Ny115.out] at ho13)); have n0_ := Aside0.mk (Kd.R_below (by (with_reducible repeat (first | apply rA_ | apply rN_ | apply rD_)); exact HO112.out) hb); have n1_ := Aside0.mk (Kd.R_lower ho13 (below_size (by repeat (first | (with_reducible first | exact HB.out | apply bA_ | apply bN_ | apply bD_) | exact HB.out)))); have n2_ := Aside0.mk (below_step (by repeat (first | (with_reducible first | exact HB.out | apply bA_ | apply bN_ | apply bD_) | exact HB.out)) hb); clear HO112; clear HB; have HO112 := n0_; have HO117 := n1_; have HB := n2_; clear n0_ n1_ n2_; clear hb ho13; obtain ⟨Ao14, co14, eo14⟩ := Kd.R_slice HO117.out; subst eo14) | (go_at_call 18; (with_reducible refine (schema_Fits.calls _ _ y110 0 _ _ y115 true _ ?side1 ?side2 ?side3 ?side4 A5.out).mono ?_); (case side1 => repeat (first | exact (Kd.R_reads' HO112.out).2.2 | (with_reducible refine cA_ ?_ _) | (with_reducible refine cN_ ?_ _) | (with_reducible refine cD_ ?_))); (case side2 => exact (Kd.R_reads' HO112.out).2.1); (case side3 => repeat (first | exact (Kd.R_reads' HO117.out).2.2 | (with_reducible refine cA_ ?_ _) | (with_reducible refine cN_ ?_ _) | (with_reducible refine cD_ ?_))); (case side4 => exact (Kd.R_reads' HO117.out).2.1); rintro e w15 ⟨rfl, hb⟩; have n0_ := Aside0.mk (Kd.R_below (by (with_reducible repeat (first | apply rA_ | apply rN_ | apply rD_)); exact HO112.out) hb); have n1_ := Aside0.mk (Kd.R_below (by (with_reducible repeat (first | apply rA_ | apply rN_ | apply rD_)); exact HO117.out) hb); have n2_ := Aside0.mk (below_step (by repeat (first | (with_reducible first | exact HB.out | apply bA_ | apply bN_ | apply bD_) | exact HB.out)) hb); clear HO112; clear HO117; clear HB; have HO112 := n0_; have HO117 := n1_; have HB := n2_; clear n0_ n1_ n2_; (try clear hb); (try clear hb2); (try clear hk); (try clear hi)) | (go_at_call 18; (refine (schema_Fits.calls _ _ y110 0 _ _ ([] : List (S53)) true _ ?side1 ?side2 ?side3 ?side4 A3.out).mono ?_); (case side1 => repeat (first | exact (Kd.R_reads' HO112.out).2.2 | (with_reducible refine cA_ ?_ _) | (with_reducible refine cN_ ?_ _) | (with_reducible refine cD_ ?_))); (case side2 => exact (Kd.R_reads' HO112.out).2.1); (case side3 => exact Kd.C_nil _ _); (case side4 => exact Nat.le_refl _); rintro e w11 ⟨rfl, hb⟩; have n0_ := Aside0.mk (Kd.R_below (by (with_reducible repeat (first | apply rA_ | apply rN_ | apply rD_)); exact HO112.out) hb); have n1_ := Aside0.mk (below_step (by repeat (first | (with_reducible first | exact HB.out | apply bA_ | apply bN_ | apply bD_) | exact HB.out)) hb); clear HO112; clear HB; have HO112 := n0_; have HB := n1_; clear n0_ n1_; (try clear hb); (try clear hb2); (try clear hk); (try clear hi)))
        go_ret
        exact ⟨by first | rfl | (simp [errW_none, errW_some] <;> rfl) | (simp [*, errW_none, errW_some] <;> rfl), by repeat (first | (with_reducible first | exact HB.out | apply bA_ | apply bN_ | apply bD_) | exact HB.out)⟩
      · replace c6 := Bool.eq_false_iff.mpr c6
        subst c6
        have H1 : ((schema_To.f y110 0 (⟨#[97]⟩ : ByteArray)).bind fun t119 => (some (t119 == (-1)))) = some r := by rw [if_neg (show ¬ (false = true) by decide)] at H; exact H
        clear H
        have H := H1
        clear H1
        replace H := Option.bind_eq_some_iff.mp H
        obtain ⟨t119, A160, H⟩ := H
        replace H : (some (t119 == (-1))) = some r := H
        have A16 := Aside0.mk A160
        clear A160
        obtain rfl := Option.some.inj H
        go_enter Try.func8, Try.ntmps8
        go_wp2_with (first | ((with_reducible refine gate_dst (N := 3) rfl ?_); (try (refine gate_guard (by rfl) ?_; dsimp only)); refine Kd.R_lit k33 _ 33 ?hg (N := 3) ?hd (xs := ([(⟨([] : List (S40)), false, false⟩ : S33)] : List (S33))) (inner := [.slice none 0 0, .bool false, .bool false]) (ok := fun _ => True) (okp := fun _ => True) ?hr ?hp (fun _ hk => hk) trivial (Below.refl _ _) (Nat.le_refl _) (by simp) ?_; (case hd => rfl); (case hg => rfl); (case hr => first | (go_simp; done) | (go_simp; rfl)); (case hp => exact (Reps.c3 (show Kd.M k33 _ _ _ (⟨([] : List (S40)), false, false⟩ : S33) [.slice none 0 0, .bool false, .bool false] from (k33_mkM _ _ _ (⟨([] : List (S40)), false, false⟩ : S33) (Kd.R_nil _ _ _ _ _))) (Reps.none _ _))); intro v111 w17 ho18 hb hg_ hnew_; clear hg_ hnew_; (first | rw [← Ny110.out] at ho18 | (simp only [Int.reduceToNat] at ho18; rw [← Ny110.out] at ho18)); have n0_ := Aside0.mk (Kd.R_lower ho18 (below_size (by repeat (first | (with_reducible first | exact HB.out | apply bA_ | apply bN_ | apply bD_) | exact HB.out)))); have n1_ := Aside0.mk (below_step (by repeat (first | (with_reducible first | exact HB.out | apply bA_ | apply bN_ | apply bD_) | exact HB.out)) hb); clear HB; have HO112 := n0_; have HB := n1_; clear n0_ n1_; clear hb ho18; obtain ⟨Ao19, co19, eo19⟩ := Kd.R_slice HO112.out; subst eo19) | ((with_reducible refine gate_callee (f := 11) rfl ?_); refine goesL_ (some 5) rfl rfl Try.func11 (by kernel_rfl) rfl #[.slice Ao19 y110.length co19] rfl (by (try simp only [List.map_toArray, List.map_cons, List.map_nil]); first | done | rfl | (simp only [List.length_drop, List.length_take]; rfl)) ?_; (with_reducible refine (schema_Check.calls k _ _ y110 t113 _ ?side1 ?side2 A1.out).mono ?_); (case side1 => repeat (first | exact (Kd.R_reads' HO112.out).2.2 | (with_reducible refine cA_ ?_ _) | (with_reducible refine cN_ ?_ _) | (with_reducible refine cD_ ?_))); (case side2 => exact (Kd.R_reads' HO112.out).2.1); rintro e w20 ⟨rfl, hb⟩; refine ⟨_, rfl, ?_⟩; have n0_ := Aside0.mk (Kd.R_below (by (with_reducible repeat (first | apply rA_ | apply rN_ | apply rD_)); exact HO112.out) hb); have n1_ := Aside0.mk (below_step (by repeat (first | (with_reducible first | exact HB.out | apply bA_ | apply bN_ | apply bD_) | exact HB.out)) hb); clear HO112; clear HB; have HO112 := n0_; have HB := n1_; clear n0_ n1_; (try clear hb); (try clear hb2); (try clear hk); (try clear hi)) | ((with_reducible refine gate_dst (N := 14) rfl ?_); (try (refine gate_guard (by rfl) ?_; dsimp only)); refine Kd.R_lit k53 _ 53 ?hg (N := 14) ?hd (xs := ([(⟨(⟨#[97]⟩ : ByteArray), ([] : List (S53))⟩ : S53)] : List (S53))) (inner := [.string (⟨#[97]⟩ : ByteArray), .slice none 0 0]) (ok := fun _ => True) (okp := fun _ => True) ?hr ?hp (fun _ hk => hk) trivial (Below.refl _ _) (Nat.le_refl _) (by simp) ?_; (case hd => rfl); (case hg => rfl); (case hr => first | (go_simp; done) | (go_simp; rfl)); (case hp => exact (Reps.c2 (show Kd.M k53 _ _ _ (⟨(⟨#[97]⟩ : ByteArray), ([] : List (S53))⟩ : S53) [.string (⟨#[97]⟩ : ByteArray), .slice none 0 0] from (k53_mkM _ _ _ (⟨(⟨#[97]⟩ : ByteArray), ([] : List (S53))⟩ : S53) (Kd.R_nil _ _ _ _ _))) (Reps.none _ _))); intro v116 w22 ho23 hb hg_ hnew_; clear hg_ hnew_; (first | rw [← Ny115.out] at ho23 | (simp only [Int.reduceToNat] at ho23; rw [← Ny115.out] at ho23)); have n0_ := Aside0.mk (Kd.R_below (by (with_reducible repeat (first | apply rA_ | apply rN_ | apply rD_)); exact HO112.out) hb); have n1_ := Aside0.mk (Kd.R_lower ho23 (below_size (by repeat (first | (with_reducible first | exact HB.out | apply bA_ | apply bN_ | apply bD_) | exact HB.out)))); have n2_ := Aside0.mk (below_step (by repeat (first | (with_reducible first | exact HB.out | apply bA_ | apply bN_ | apply bD_) | exact HB.out)) hb); clear HO112; clear HB; have HO112 := n0_; have HO117 := n1_; have HB := n2_; clear n0_ n1_ n2_; clear hb ho23; obtain ⟨Ao24, co24, eo24⟩ := Kd.R_slice HO117.out; subst eo24) | (go_at_call 18; (with_reducible refine (schema_Fits.calls _ _ y110 0 _ _ y115 false _ ?side1 ?side2 ?side3 ?side4 A5.out).mono ?_); (case side1 => repeat (first | exact (Kd.R_reads' HO112.out).2.2 | (with_reducible refine cA_ ?_ _) | (with_reducible refine cN_ ?_ _) | (with_reducible refine cD_ ?_))); (case side2 => exact (Kd.R_reads' HO112.out).2.1); (case side3 => repeat (first | exact (Kd.R_reads' HO117.out).2.2 | (with_reducible refine cA_ ?_ _) | (with_reducible refine cN_ ?_ _) | (with_reducible refine cD_ ?_))); (case side4 => exact (Kd.R_reads' HO117.out).2.1); rintro e w25 ⟨rfl, hb⟩; have n0_ := Aside0.mk (Kd.R_below (by (with_reducible repeat (first | apply rA_ | apply rN_ | apply rD_)); exact HO112.out) hb); have n1_ := Aside0.mk (Kd.R_below (by (with_reducible repeat (first | apply rA_ | apply rN_ | apply rD_)); exact HO117.out) hb); have n2_ := Aside0.mk (below_step (by repeat (first | (with_reducible first | exact HB.out | apply bA_ | apply bN_ | apply bD_) | exact HB.out)) hb); clear HO112; clear HO117; clear HB; have HO112 := n0_; have HO117 := n1_; have HB := n2_; clear n0_ n1_ n2_; (try clear hb); (try clear hb2); (try clear hk); (try clear hi)) | (go_at_call 20; (with_reducible refine (schema_To.calls _ _ y110 0 (⟨#[97]⟩ : ByteArray) t119 _ ?side1 ?side2 A16.out).mono ?_); (case side1 => repeat (first | exact (Kd.R_reads' HO112.out).2.2 | (with_reducible refine cA_ ?_ _) | (with_reducible refine cN_ ?_ _) | (with_reducible refine cD_ ?_))); (case side2 => exact (Kd.R_reads' HO112.out).2.1); rintro e w26 ⟨rfl, hb⟩; have n0_ := Aside0.mk (Kd.R_below (by (with_reducible repeat (first | apply rA_ | apply rN_ | apply rD_)); exact HO112.out) hb); have n1_ := Aside0.mk (Kd.R_below (by (with_reducible repeat (first | apply rA_ | apply rN_ | apply rD_)); exact HO117.out) hb); have n2_ := Aside0.mk (below_step (by repeat (first | (with_reducible first | exact HB.out | apply bA_ | apply bN_ | apply bD_) | exact HB.out)) hb); clear HO112; clear HO117; clear HB; have HO112 := n0_; have HO117 := n1_; have HB := n2_; clear n0_ n1_ n2_; (try clear hb); (try clear hb2); (try clear hk); (try clear hi)) | (go_at_call 18; (refine (schema_Fits.calls _ _ y110 0 _ _ ([] : List (S53)) true _ ?side1 ?side2 ?side3 ?side4 A3.out).mono ?_); (case side1 => repeat (first | exact (Kd.R_reads' HO112.out).2.2 | (with_reducible refine cA_ ?_ _) | (with_reducible refine cN_ ?_ _) | (with_reducible refine cD_ ?_))); (case side2 => exact (Kd.R_reads' HO112.out).2.1); (case side3 => exact Kd.C_nil _ _); (case side4 => exact Nat.le_refl _); rintro e w21 ⟨rfl, hb⟩; have n0_ := Aside0.mk (Kd.R_below (by (with_reducible repeat (first | apply rA_ | apply rN_ | apply rD_)); exact HO112.out) hb); have n1_ := Aside0.mk (below_step (by repeat (first | (with_reducible first | exact HB.out | apply bA_ | apply bN_ | apply bD_) | exact HB.out)) hb); clear HO112; clear HB; have HO112 := n0_; have HB := n1_; clear n0_ n1_; (try clear hb); (try clear hb2); (try clear hk); (try clear hi)))
        go_ret
        exact ⟨by first | rfl | (simp [errW_none, errW_some] <;> rfl) | (simp [*, errW_none, errW_some] <;> rfl), by repeat (first | (with_reducible first | exact HB.out | apply bA_ | apply bN_ | apply bD_) | exact HB.out)⟩
    · replace c4 := Bool.eq_false_iff.mpr c4
      subst c4
      have H1 : (some false) = some r := by rw [if_neg (show ¬ (false = true) by decide)] at H; exact H
      clear H
      have H := H1
      clear H1
      obtain rfl := Option.some.inj H
      go_enter Try.func8, Try.ntmps8
      go_wp2_with (first | ((with_reducible refine gate_dst (N := 3) rfl ?_); (try (refine gate_guard (by rfl) ?_; dsimp only)); refine Kd.R_lit k33 _ 33 ?hg (N := 3) ?hd (xs := ([(⟨([] : List (S40)), false, false⟩ : S33)] : List (S33))) (inner := [.slice none 0 0, .bool false, .bool false]) (ok := fun _ => True) (okp := fun _ => True) ?hr ?hp (fun _ hk => hk) trivial (Below.refl _ _) (Nat.le_refl _) (by simp) ?_; (case hd => rfl); (case hg => rfl); (case hr => first | (go_simp; done) | (go_simp; rfl)); (case hp => exact (Reps.c3 (show Kd.M k33 _ _ _ (⟨([] : List (S40)), false, false⟩ : S33) [.slice none 0 0, .bool false, .bool false] from (k33_mkM _ _ _ (⟨([] : List (S40)), false, false⟩ : S33) (Kd.R_nil _ _ _ _ _))) (Reps.none _ _))); intro v111 w27 ho28 hb hg_ hnew_; clear hg_ hnew_; (first | rw [← Ny110.out] at ho28 | (simp only [Int.reduceToNat] at ho28; rw [← Ny110.out] at ho28)); have n0_ := Aside0.mk (Kd.R_lower ho28 (below_size (by repeat (first | (with_reducible first | exact HB.out | apply bA_ | apply bN_ | apply bD_) | exact HB.out)))); have n1_ := Aside0.mk (below_step (by repeat (first | (with_reducible first | exact HB.out | apply bA_ | apply bN_ | apply bD_) | exact HB.out)) hb); clear HB; have HO112 := n0_; have HB := n1_; clear n0_ n1_; clear hb ho28; obtain ⟨Ao29, co29, eo29⟩ := Kd.R_slice HO112.out; subst eo29) | ((with_reducible refine gate_callee (f := 11) rfl ?_); refine goesL_ (some 5) rfl rfl Try.func11 (by kernel_rfl) rfl #[.slice Ao29 y110.length co29] rfl (by (try simp only [List.map_toArray, List.map_cons, List.map_nil]); first | done | rfl | (simp only [List.length_drop, List.length_take]; rfl)) ?_; (with_reducible refine (schema_Check.calls k _ _ y110 t113 _ ?side1 ?side2 A1.out).mono ?_); (case side1 => repeat (first | exact (Kd.R_reads' HO112.out).2.2 | (with_reducible refine cA_ ?_ _) | (with_reducible refine cN_ ?_ _) | (with_reducible refine cD_ ?_))); (case side2 => exact (Kd.R_reads' HO112.out).2.1); rintro e w30 ⟨rfl, hb⟩; refine ⟨_, rfl, ?_⟩; have n0_ := Aside0.mk (Kd.R_below (by (with_reducible repeat (first | apply rA_ | apply rN_ | apply rD_)); exact HO112.out) hb); have n1_ := Aside0.mk (below_step (by repeat (first | (with_reducible first | exact HB.out | apply bA_ | apply bN_ | apply bD_) | exact HB.out)) hb); clear HO112; clear HB; have HO112 := n0_; have HB := n1_; clear n0_ n1_; (try clear hb); (try clear hb2); (try clear hk); (try clear hi)) | (go_at_call 18; (refine (schema_Fits.calls _ _ y110 0 _ _ ([] : List (S53)) false _ ?side1 ?side2 ?side3 ?side4 A3.out).mono ?_); (case side1 => repeat (first | exact (Kd.R_reads' HO112.out).2.2 | (with_reducible refine cA_ ?_ _) | (with_reducible refine cN_ ?_ _) | (with_reducible refine cD_ ?_))); (case side2 => exact (Kd.R_reads' HO112.out).2.1); (case side3 => exact Kd.C_nil _ _); (case side4 => exact Nat.le_refl _); rintro e w31 ⟨rfl, hb⟩; have n0_ := Aside0.mk (Kd.R_below (by (with_reducible repeat (first | apply rA_ | apply rN_ | apply rD_)); exact HO112.out) hb); have n1_ := Aside0.mk (below_step (by repeat (first | (with_reducible first | exact HB.out | apply bA_ | apply bN_ | apply bD_) | exact HB.out)) hb); clear HO112; clear HB; have HO112 := n0_; have HB := n1_; clear n0_ n1_; (try clear hb); (try clear hb2); (try clear hk); (try clear hi)))
      go_ret
      exact ⟨by first | rfl | (simp [errW_none, errW_some] <;> rfl) | (simp [*, errW_none, errW_some] <;> rfl), by repeat (first | (with_reducible first | exact HB.out | apply bA_ | apply bN_ | apply bD_) | exact HB.out)⟩
  · rw [if_neg c2] at H
    have c2b0 : (t113 == 0) = false := beq_eq_false_iff_ne.mpr c2
    have c2b1 : (t113 != 0) = true := bne_iff_ne.mpr c2
    obtain rfl := Option.some.inj H
    go_enter Try.func8, Try.ntmps8
    go_wp2_with (first | ((with_reducible refine gate_dst (N := 3) rfl ?_); (try (refine gate_guard (by rfl) ?_; dsimp only)); refine Kd.R_lit k33 _ 33 ?hg (N := 3) ?hd (xs := ([(⟨([] : List (S40)), false, false⟩ : S33)] : List (S33))) (inner := [.slice none 0 0, .bool false, .bool false]) (ok := fun _ => True) (okp := fun _ => True) ?hr ?hp (fun _ hk => hk) trivial (Below.refl _ _) (Nat.le_refl _) (by simp) ?_; (case hd => rfl); (case hg => rfl); (case hr => first | (go_simp; done) | (go_simp; rfl)); (case hp => exact (Reps.c3 (show Kd.M k33 _ _ _ (⟨([] : List (S40)), false, false⟩ : S33) [.slice none 0 0, .bool false, .bool false] from (k33_mkM _ _ _ (⟨([] : List (S40)), false, false⟩ : S33) (Kd.R_nil _ _ _ _ _))) (Reps.none _ _))); intro v111 w32 ho33 hb hg_ hnew_; clear hg_ hnew_; (first | rw [← Ny110.out] at ho33 | (simp only [Int.reduceToNat] at ho33; rw [← Ny110.out] at ho33)); have n0_ := Aside0.mk (Kd.R_lower ho33 (below_size (by repeat (first | (with_reducible first | exact HB.out | apply bA_ | apply bN_ | apply bD_) | exact HB.out)))); have n1_ := Aside0.mk (below_step (by repeat (first | (with_reducible first | exact HB.out | apply bA_ | apply bN_ | apply bD_) | exact HB.out)) hb); clear HB; have HO112 := n0_; have HB := n1_; clear n0_ n1_; clear hb ho33; obtain ⟨Ao34, co34, eo34⟩ := Kd.R_slice HO112.out; subst eo34) | ((with_reducible refine gate_callee (f := 11) rfl ?_); refine goesL_ (some 5) rfl rfl Try.func11 (by kernel_rfl) rfl #[.slice Ao34 y110.length co34] rfl (by (try simp only [List.map_toArray, List.map_cons, List.map_nil]); first | done | rfl | (simp only [List.length_drop, List.length_take]; rfl)) ?_; (with_reducible refine (schema_Check.calls k _ _ y110 t113 _ ?side1 ?side2 A1.out).mono ?_); (case side1 => repeat (first | exact (Kd.R_reads' HO112.out).2.2 | (with_reducible refine cA_ ?_ _) | (with_reducible refine cN_ ?_ _) | (with_reducible refine cD_ ?_))); (case side2 => exact (Kd.R_reads' HO112.out).2.1); rintro e w35 ⟨rfl, hb⟩; refine ⟨_, rfl, ?_⟩; have n0_ := Aside0.mk (Kd.R_below (by (with_reducible repeat (first | apply rA_ | apply rN_ | apply rD_)); exact HO112.out) hb); have n1_ := Aside0.mk (below_step (by repeat (first | (with_reducible first | exact HB.out | apply bA_ | apply bN_ | apply bD_) | exact HB.out)) hb); clear HO112; clear HB; have HO112 := n0_; have HB := n1_; clear n0_ n1_; (try clear hb); (try clear hb2); (try clear hk); (try clear hi)))
    go_ret
    exact ⟨by first | rfl | (simp [errW_none, errW_some] <;> rfl) | (simp [*, errW_none, errW_some] <;> rfl), by repeat (first | (with_reducible first | exact HB.out | apply bA_ | apply bN_ | apply bD_) | exact HB.out)⟩

end Go.Proofs.Ytoihiehoolehiaa.PX
/- What schema.Check, Fits, To answer; the chapter's example. -/
set_option linter.unusedVariables false
set_option linter.unusedSimpArgs false
namespace Go.Proofs.Ytoihiehoolehiaa.PX
open Go.RowKit Go.Proofs.YtoihiehoolehiaaW.PrintWords Go.Proofs.YtoihiehoolehiaaW.PrintLast Go.Proofs.YtoihiehoolehiaaW.PrintMore Go.Proofs.Ytoihiehoolehiaa
/-- The first thing wrong with a definition's fields, from the i-th on; 0: none. -/
def fieldsM (n : Nat) (fs : List S40) : Nat → Nat → Int
  | 0, _ => 0
  | d + 1, i => if h : i < fs.length then (if fieldM n (fs.take i) fs[i] = 0 then fieldsM n fs d (i + 1) else fieldM n (fs.take i) fs[i]) else 0
def defM (n : Nat) (d : S33) : Int := if 6 < d.f0.length then 4 else fieldsM n d.f0 d.f0.length 0
def defsM (n : Nat) : List S33 → Int
  | [] => 0
  | d :: t => if defM n d = 0 then defsM n t else defM n d
def checkM (s : Sc) : Int := if s.length = 0 then 2 else if 12 < s.length then 4 else defsM s.length s
def ScFew (s : Sc) : Prop := ∀ d ∈ s, d.f0.length ≤ 1000000 ∧ ∀ f ∈ d.f0, FieldOk f
theorem rdD_nat {l : Sc} {i : Nat} (h : i < l.length) : rd_T33 l (i : Int) = l[i] := by simp [rd_T33, List.getD_eq_getElem?_getD, h]
theorem check_ev (s : Sc) (hs : ScFew s) : Ev (fun k => schema_Check.f k s) (checkM s) := by
  by_cases h0 : s.length = 0
  · have e : ∀ k, schema_Check.f k s = some 2 := fun k => by unfold schema_Check.f; rw [if_pos (by omega)]
    simp only [e]
    rw [checkM, if_pos h0]
    exact Ev.now _
  by_cases h1 : 12 < s.length
  · have e : ∀ k, schema_Check.f k s = some 4 := fun k => by unfold schema_Check.f; rw [if_neg (by omega), if_pos (by omega)]
    simp only [e]
    rw [checkM, if_neg h0, if_pos h1]
    exact Ev.now _
  have e : ∀ k, schema_Check.f k s = schema_Check.l0 k s s (s.length : Int) 0 := fun k => by unfold schema_Check.f; rw [if_neg (by omega), if_neg (by omega)]
  simp only [e]
  rw [checkM, if_neg h0, if_neg h1]
  have inner : ∀ (d : S33) (hd : d ∈ s) (i : Nat) (r : Int) (hi : i < s.length) (hr : Ev (fun k => schema_Check.l0 k s s (s.length : Int) ((i + 1 : Nat) : Int)) r) (m j : Nat), d.f0.length - j ≤ m → j ≤ d.f0.length → Ev (fun k => schema_Check.l1 k s s (s.length : Int) (i : Int) d.f0 (d.f0.length : Int) (j : Int) d.f0 d.f1 d.f2) (if fieldsM s.length d.f0 m j = 0 then r else fieldsM s.length d.f0 m j) := by
    intro d hd i r hi hr m
    have hdl := hs d hd
    induction m with
    | zero =>
      intro j hm hj
      obtain rfl : j = d.f0.length := by omega
      refine Ev.step (f := fun k => schema_Check.l0 k s s (s.length : Int) ((i + 1 : Nat) : Int)) (fun k => ?_) ?_
      · simp only [schema_Check.l1]
        rw [if_neg (by omega), wrap_succ (by omega)]
      · rw [fieldsM, if_pos rfl]; exact hr
    | succ m ih =>
      intro j hm hj
      by_cases h : j < d.f0.length
      · have hle : (d.f0.take j).length ≤ 1000000000000 := by rw [List.length_take]; omega
        have ef : schema_field.f s (d.f0.take j) (d.f0[j]).f0.f0 (d.f0[j]).f0.f1 (d.f0[j]).f1 (d.f0[j]).f2 = some (fieldM s.length (d.f0.take j) d.f0[j]) := by
          unfold schema_field.f
          rw [if_pos ⟨hle, hdl.2 _ (List.getElem_mem h), fun o ho => hdl.2 o (List.mem_of_mem_take ho)⟩]
        have e : ∀ k, schema_Check.l1 (k + 1) s s (s.length : Int) (i : Int) d.f0 (d.f0.length : Int) (j : Int) d.f0 d.f1 d.f2 = if fieldM s.length (d.f0.take j) d.f0[j] = 0 then schema_Check.l1 k s s (s.length : Int) (i : Int) d.f0 (d.f0.length : Int) ((j + 1 : Nat) : Int) d.f0 d.f1 d.f2 else some (fieldM s.length (d.f0.take j) d.f0[j]) := by
          intro k
          simp only [schema_Check.l1]
          rw [if_pos (by omega), if_pos (by omega), if_pos (by omega), if_pos (by omega), rdF_nat h, Int.toNat_natCast, ef, wrap_succ (by omega)]
          simp only [Option.bind_some]
        rw [fieldsM, dif_pos h]
        by_cases hf : fieldM s.length (d.f0.take j) d.f0[j] = 0
        · rw [if_pos hf]
          exact Ev.step (fun k => (e k).trans (if_pos hf)) (ih (j + 1) (by omega) (by omega))
        · rw [if_neg hf, if_neg hf]
          exact Ev.step (fun k => (e k).trans (if_neg hf)) (Ev.now _)
      · obtain rfl : j = d.f0.length := by omega
        refine Ev.step (f := fun k => schema_Check.l0 k s s (s.length : Int) ((i + 1 : Nat) : Int)) (fun k => ?_) ?_
        · simp only [schema_Check.l1]
          rw [if_neg (by omega), wrap_succ (by omega)]
        · rw [fieldsM, dif_neg h, if_pos rfl]; exact hr
  have outer : ∀ (m i : Nat), s.length - i ≤ m → i ≤ s.length → Ev (fun k => schema_Check.l0 k s s (s.length : Int) (i : Int)) (defsM s.length (s.drop i)) := by
    intro m
    induction m with
    | zero =>
      intro i hm hi
      obtain rfl : i = s.length := by omega
      refine Ev.step (f := fun _ => some 0) (fun k => ?_) ?_
      · simp only [schema_Check.l0]
        rw [if_neg (by omega)]
      · rw [List.drop_length]; exact Ev.now _
    | succ m ih =>
      intro i hm hi
      by_cases h : i < s.length
      · rw [List.drop_eq_getElem_cons h, defsM, defM]
        by_cases h6 : 6 < (s[i]).f0.length
        · rw [if_pos h6]
          refine Ev.step (f := fun _ => some 4) (fun k => ?_) (Ev.now _)
          simp only [schema_Check.l0]
          rw [if_pos (by omega), if_pos (by omega), if_pos (by omega), rdD_nat h, if_pos (by omega)]
        · rw [if_neg h6]
          refine Ev.step (f := fun k => schema_Check.l1 k s s (s.length : Int) (i : Int) (s[i]).f0 ((s[i]).f0.length : Int) 0 (s[i]).f0 (s[i]).f1 (s[i]).f2) (fun k => ?_) ?_
          · simp only [schema_Check.l0]
            rw [if_pos (by omega), if_pos (by omega), if_pos (by omega), rdD_nat h, if_neg (by omega)]
          · exact inner s[i] (List.getElem_mem h) i _ h (ih (i + 1) (by omega) (by omega)) (s[i]).f0.length 0 (by omega) (Nat.zero_le _)
      · obtain rfl : i = s.length := by omega
        refine Ev.step (f := fun _ => some 0) (fun k => ?_) ?_
        · simp only [schema_Check.l0]
          rw [if_neg (by omega)]
        · rw [List.drop_length]; exact Ev.now _
  exact outer s.length 0 (by omega) (Nat.zero_le _)
end Go.Proofs.Ytoihiehoolehiaa.PX
-- written by wip/tools/hybrid.py (over the kit's print.py, with functions proved by hand beside it) for this claim
namespace Go.Proofs.Ytoihiehoolehiaa.PX
open Go.RowKit Go.Proofs.YtoihiehoolehiaaW.PrintWords Go.Proofs.YtoihiehoolehiaaW.PrintLast Go.Proofs.YtoihiehoolehiaaW.PrintMore
attribute [local go_sem] max2_int min2_int max_two min_two max_three min_three max_four min_four   -- for this text's walks alone
set_option linter.unusedVariables false
set_option linter.unusedSimpArgs false

attribute [local go_sem] run_field_87_0
/-! ### cadencelaw4_within: function 13 -/
def cadencelaw4_within.f (a0 : Int) (a1 : Int) : Option (Int) := if a1 = 0 then (none) else (if (Int.tmod a0 a1) < 0 then (some (wrap64 ((Int.tmod a0 a1) + a1))) else (some (Int.tmod a0 a1)))
set_option maxHeartbeats 8000000 in
set_option maxRecDepth 100000 in
theorem cadencelaw4_within.calls (a0 : Int) (a1 : Int) (r : Int) (w : World) (h : cadencelaw4_within.f a0 a1 = some r) :
    Calls Try.prog 13 #[.int .i64 a0, .int .i64 a1] w fun e w' => e = .returned (.int .i64 r) ∧ Drawn0 w w' := by
  have H : (if a1 = 0 then (none) else (if (Int.tmod a0 a1) < 0 then (some (wrap64 ((Int.tmod a0 a1) + a1))) else (some (Int.tmod a0 a1)))) = some r := h
  clear h
  by_cases c3 : a1 = 0
  · rw [if_pos c3] at H
    exact absurd H (by simp)
  · rw [if_neg c3] at H
    have c3b0 : (a1 == 0) = false := beq_eq_false_iff_ne.mpr c3
    have c3b1 : (a1 != 0) = true := bne_iff_ne.mpr c3
    by_cases c4 : (Int.tmod a0 a1) < 0
    · rw [if_pos c4] at H
      have c4b0 : decide ((Int.tmod a0 a1) < 0) = true := decide_eq_true c4
      clear c4
      obtain rfl := Option.some.inj H
      go_enter Try.func13, Try.ntmps13
      go_wp2
      go_ret
      exact ⟨by first | rfl | (simp; done) | (simp [*]; done), by repeat (first | exact Drawn0.refl _ | apply Drawn0.step)⟩
    · rw [if_neg c4] at H
      have c4b0 : decide ((Int.tmod a0 a1) < 0) = false := decide_eq_false c4
      clear c4
      obtain rfl := Option.some.inj H
      go_enter Try.func13, Try.ntmps13
      go_wp2
      go_ret
      exact ⟨by first | rfl | (simp; done) | (simp [*]; done), by repeat (first | exact Drawn0.refl _ | apply Drawn0.step)⟩

end Go.Proofs.Ytoihiehoolehiaa.PX
-- written by wip/tools/hybrid.py (over the kit's print.py, with functions proved by hand beside it) for this claim
namespace Go.Proofs.Ytoihiehoolehiaa.PX
open Go.RowKit Go.Proofs.YtoihiehoolehiaaW.PrintWords Go.Proofs.YtoihiehoolehiaaW.PrintLast Go.Proofs.YtoihiehoolehiaaW.PrintMore
attribute [local go_sem] max2_int min2_int max_two min_two max_three min_three max_four min_four   -- for this text's walks alone
set_option linter.unusedVariables false
set_option linter.unusedSimpArgs false

attribute [local go_sem] run_field_87_0
/-! ### cadencelaw4_SchemaMany: function 7 -/
mutual
def cadencelaw4_SchemaMany.l0 : Nat → Int → Int → List (S33) → Int → Option (Bool)
  | 0, _, _, _, _ => none
  | k + 1, x0, x1, x5, x6 => if x6 < x0 then (cadencelaw4_SchemaMany.l1 k x0 x1 x5 x6 0 ([] : List (S40)) false false) else (if x0 > 12 then (cadencelaw4_SchemaMany.j2 k x5 true) else (cadencelaw4_SchemaMany.j2 k x5 (decide (x1 > 6))))
def cadencelaw4_SchemaMany.l1 : Nat → Int → Int → List (S33) → Int → Int → List (S40) → Bool → Bool → Option (Bool)
  | 0, _, _, _, _, _, _, _, _ => none
  | k + 1, x0, x1, x5, x6, x8, x410000, x410001, x410002 => if x8 < x1 then (if x410000.length < 2932031007402 then (cadencelaw4_SchemaMany.l1 k x0 x1 x5 x6 (wrap64 (x8 + 1)) (x410000 ++ [(⟨(⟨false, (([strOfNums (([(wrap64 (97 + x8)) % 256] : List Int))] : List ByteArray))⟩ : S38), x6, false⟩ : S40)]) x410001 x410002) else (none)) else (if x5.length < 4398046511104 then (cadencelaw4_SchemaMany.l0 k x0 x1 (x5 ++ [(⟨x410000, x410001, x410002⟩ : S33)]) (wrap64 (x6 + 1))) else (none))
def cadencelaw4_SchemaMany.j2 : Nat → List (S33) → Bool → Option (Bool)
  | 0, _, _ => none
  | k + 1, x5, x50 => if x50 = true then ((schema_Check.f k x5).bind fun t422 => (some (t422 == 4))) else ((schema_Check.f k x5).bind fun t423 => (if t423 = 0 then ((schema_Check.f k ([] : List (S33))).bind fun t424 => (some (t424 == 2))) else (some false)))
end
def cadencelaw4_SchemaMany.f (k : Nat) (a0 : Int) (a1 : Int) : Option (Bool) := (cadencelaw4_known.f k).bind fun t406 => (if t406 = true then ((cadencelaw4_within.f a0 5).bind fun t407 => ((cadencelaw4_within.f a1 5).bind fun t408 => (cadencelaw4_SchemaMany.l0 k (wrap64 (10 + t407)) (wrap64 (4 + t408)) ([] : List (S33)) 0))) else (some false))
theorem cadencelaw4_SchemaMany.mono_l : ∀ k, (∀ y0 y1 y2 y3, LeO (cadencelaw4_SchemaMany.l0 k y0 y1 y2 y3) (cadencelaw4_SchemaMany.l0 (k + 1) y0 y1 y2 y3)) ∧ (∀ y0 y1 y2 y3 y4 y5 y6 y7, LeO (cadencelaw4_SchemaMany.l1 k y0 y1 y2 y3 y4 y5 y6 y7) (cadencelaw4_SchemaMany.l1 (k + 1) y0 y1 y2 y3 y4 y5 y6 y7)) ∧ (∀ y0 y1, LeO (cadencelaw4_SchemaMany.j2 k y0 y1) (cadencelaw4_SchemaMany.j2 (k + 1) y0 y1))
  | 0 => ⟨fun _ _ _ _ r h => by simp [cadencelaw4_SchemaMany.l0] at h, fun _ _ _ _ _ _ _ _ r h => by simp [cadencelaw4_SchemaMany.l1] at h, fun _ _ r h => by simp [cadencelaw4_SchemaMany.j2] at h⟩
  | k + 1 => by
    obtain ⟨ih0, ih1, ih2⟩ := cadencelaw4_SchemaMany.mono_l k
    refine ⟨?_, ?_, ?_⟩
    · intro y0 y1 y2 y3
      unfold cadencelaw4_SchemaMany.l0
      repeat' first
      | (with_reducible exact ih0 _ _ _ _)
      | (with_reducible exact ih1 _ _ _ _ _ _ _ _)
      | (with_reducible exact ih2 _ _)
      | (with_reducible exact cadencelaw4_known.mono _)
      | (with_reducible exact schema_Check.mono _ _)
      | (with_reducible exact LeO.refl _)
      | (with_reducible exact LeO.none _)
      | (with_reducible refine LeO.ite ?_ ?_)
      | (with_reducible refine LeO.bind ?_ (fun _ => ?_))
      | exact ih0 _ _ _ _
      | exact ih1 _ _ _ _ _ _ _ _
      | exact ih2 _ _
      | exact cadencelaw4_known.mono _
      | exact schema_Check.mono _ _
      | exact LeO.none _
      | refine LeO.ite ?_ ?_
      | refine LeO.bind ?_ (fun _ => ?_)
    · intro y0 y1 y2 y3 y4 y5 y6 y7
      unfold cadencelaw4_SchemaMany.l1
      repeat' first
      | (with_reducible exact ih0 _ _ _ _)
      | (with_reducible exact ih1 _ _ _ _ _ _ _ _)
      | (with_reducible exact ih2 _ _)
      | (with_reducible exact cadencelaw4_known.mono _)
      | (with_reducible exact schema_Check.mono _ _)
      | (with_reducible exact LeO.refl _)
      | (with_reducible exact LeO.none _)
      | (with_reducible refine LeO.ite ?_ ?_)
      | (with_reducible refine LeO.bind ?_ (fun _ => ?_))
      | exact ih0 _ _ _ _
      | exact ih1 _ _ _ _ _ _ _ _
      | exact ih2 _ _
      | exact cadencelaw4_known.mono _
      | exact schema_Check.mono _ _
      | exact LeO.none _
      | refine LeO.ite ?_ ?_
      | refine LeO.bind ?_ (fun _ => ?_)
    · intro y0 y1
      unfold cadencelaw4_SchemaMany.j2
      repeat' first
      | (with_reducible exact ih0 _ _ _ _)
      | (with_reducible exact ih1 _ _ _ _ _ _ _ _)
      | (with_reducible exact ih2 _ _)
      | (with_reducible exact cadencelaw4_known.mono _)
      | (with_reducible exact schema_Check.mono _ _)
      | (with_reducible exact LeO.refl _)
      | (with_reducible exact LeO.none _)
      | (with_reducible refine LeO.ite ?_ ?_)
      | (with_reducible refine LeO.bind ?_ (fun _ => ?_))
      | exact ih0 _ _ _ _
      | exact ih1 _ _ _ _ _ _ _ _
      | exact ih2 _ _
      | exact cadencelaw4_known.mono _
      | exact schema_Check.mono _ _
      | exact LeO.none _
      | refine LeO.ite ?_ ?_
      | refine LeO.bind ?_ (fun _ => ?_)
theorem cadencelaw4_SchemaMany.mono : ∀ a0 a1 k, LeO (cadencelaw4_SchemaMany.f k a0 a1) (cadencelaw4_SchemaMany.f (k + 1) a0 a1) := by
  intro a0 a1 k
  obtain ⟨ih0, ih1, ih2⟩ := cadencelaw4_SchemaMany.mono_l k
  unfold cadencelaw4_SchemaMany.f
  repeat' first
      | (with_reducible exact ih0 _ _ _ _)
      | (with_reducible exact ih1 _ _ _ _ _ _ _ _)
      | (with_reducible exact ih2 _ _)
      | (with_reducible exact cadencelaw4_known.mono _)
      | (with_reducible exact schema_Check.mono _ _)
      | (with_reducible exact LeO.refl _)
      | (with_reducible exact LeO.none _)
      | (with_reducible refine LeO.ite ?_ ?_)
      | (with_reducible refine LeO.bind ?_ (fun _ => ?_))
      | exact ih0 _ _ _ _
      | exact ih1 _ _ _ _ _ _ _ _
      | exact ih2 _ _
      | exact cadencelaw4_known.mono _
      | exact schema_Check.mono _ _
      | exact LeO.none _
      | refine LeO.ite ?_ ?_
      | refine LeO.bind ?_ (fun _ => ?_)
set_option maxHeartbeats 8000000 in
set_option maxRecDepth 100000 in
theorem cadencelaw4_SchemaMany.calls (k : Nat) (a0 : Int) (a1 : Int) (r : Bool) (w : World) (h : cadencelaw4_SchemaMany.f k a0 a1 = some r) :
    Calls Try.prog 7 #[.int .i64 a0, .int .i64 a1] w fun e w' => e = .returned (.bool r) ∧ Below w.heap.size w w' := by
  have hu33 := Try.underlying33
  have hu38 := Try.underlying38
  have hu40 := Try.underlying40
  have HB := Aside0.mk (Below.refl w.heap.size w)
  have H : ((cadencelaw4_known.f k).bind fun t406 => (if t406 = true then ((cadencelaw4_within.f a0 5).bind fun t407 => ((cadencelaw4_within.f a1 5).bind fun t408 => (cadencelaw4_SchemaMany.l0 k (wrap64 (10 + t407)) (wrap64 (4 + t408)) ([] : List (S33)) 0))) else (some false))) = some r := h
  clear h
  replace H := Option.bind_eq_some_iff.mp H
  obtain ⟨t406, A30, H⟩ := H
  replace H : (if t406 = true then ((cadencelaw4_within.f a0 5).bind fun t407 => ((cadencelaw4_within.f a1 5).bind fun t408 => (cadencelaw4_SchemaMany.l0 k (wrap64 (10 + t407)) (wrap64 (4 + t408)) ([] : List (S33)) 0))) else (some false)) = some r := H
  have A3 := Aside0.mk A30
  clear A30
  by_cases c4 : t406 = true
  · subst c4
    have H1 : ((cadencelaw4_within.f a0 5).bind fun t407 => ((cadencelaw4_within.f a1 5).bind fun t408 => (cadencelaw4_SchemaMany.l0 k (wrap64 (10 + t407)) (wrap64 (4 + t408)) ([] : List (S33)) 0))) = some r := by rw [if_pos rfl] at H; exact H
    clear H
    have H := H1
    clear H1
    replace H := Option.bind_eq_some_iff.mp H
    obtain ⟨t407, A50, H⟩ := H
    replace H : ((cadencelaw4_within.f a1 5).bind fun t408 => (cadencelaw4_SchemaMany.l0 k (wrap64 (10 + t407)) (wrap64 (4 + t408)) ([] : List (S33)) 0)) = some r := H
    have A5 := Aside0.mk A50
    clear A50
    replace H := Option.bind_eq_some_iff.mp H
    obtain ⟨t408, A60, H⟩ := H
    replace H : (cadencelaw4_SchemaMany.l0 k (wrap64 (10 + t407)) (wrap64 (4 + t408)) ([] : List (S33)) 0) = some r := H
    have A6 := Aside0.mk A60
    clear A60
    have H' := Aside0.mk H
    clear H
    go_enter Try.func7, Try.ntmps7
    go_wp2_with (first | ((with_reducible refine gate_callee (f := 8) rfl ?_); refine goesL_ (some 9) rfl rfl Try.func8 (by kernel_rfl) rfl #[] rfl (by (try simp only [List.map_toArray, List.map_cons, List.map_nil]); first | done | rfl | (simp only [List.length_drop, List.length_take]; rfl)) ?_; (with_reducible refine (cadencelaw4_known.calls k  true _ A3.out).mono ?_); rintro e w7 ⟨rfl, hb⟩; refine ⟨_, rfl, ?_⟩; have n0_ := Aside0.mk (below_step (by repeat (first | (with_reducible first | exact HB.out | apply bA_ | apply bN_ | apply bD_) | exact HB.out)) hb); clear HB; have HB := n0_; clear n0_; (try clear hb); (try clear hb2); (try clear hk); (try clear hi)) | ((with_reducible refine gate_callee (f := 13) rfl ?_); refine goesL_ (some 12) rfl rfl Try.func13 (by kernel_rfl) rfl #[.int .i64 a0, .int .i64 5] rfl (by (try simp only [List.map_toArray, List.map_cons, List.map_nil]); first | done | rfl | (simp only [List.length_drop, List.length_take]; rfl)) ?_; (with_reducible refine (cadencelaw4_within.calls a0 5 t407 _ A5.out).mono ?_); rintro e w' ⟨rfl, ⟨nd, rfl⟩⟩; refine ⟨_, rfl, ?_⟩) | ((with_reducible refine gate_callee (f := 13) rfl ?_); refine goesL_ (some 15) rfl rfl Try.func13 (by kernel_rfl) rfl #[.int .i64 a1, .int .i64 5] rfl (by (try simp only [List.map_toArray, List.map_cons, List.map_nil]); first | done | rfl | (simp only [List.length_drop, List.length_take]; rfl)) ?_; (with_reducible refine (cadencelaw4_within.calls a1 5 t408 _ A6.out).mono ?_); rintro e w' ⟨rfl, ⟨nd, rfl⟩⟩; refine ⟨_, rfl, ?_⟩))
    go_loopg [5, 6] k (fun kq v5 v6 w' => ∃ (x5_1 : List (S33)) (x6_1 : Int), v6 = .int .i64 x6_1 ∧ Aside0 (cadencelaw4_SchemaMany.l0 kq (wrap64 (10 + t407)) (wrap64 (4 + t408)) x5_1 x6_1 = some r) ∧ Aside0 (kq ≤ k) ∧ Aside0 (Kd.R k33 33 w' w.heap.size (fun _ => True) v5 x5_1) ∧ Aside0 (Below w.heap.size w w'))
    case atStart => exact ⟨(([] : List (S33))), (0), (by first | rfl | (simp; done) | (simp [*]; done)), H', ⟨Nat.le_refl _⟩, ⟨by first | exact Kd.R_nil _ _ _ _ _ | exact Kd.N_nil _ _ _ _ _ | exact Kd.V_nil _ _ _ _ _ | exact Kd.Q_nil _ _ _ _ _ | exact Kd.S_nil _ _ _ _ _⟩, ⟨by repeat (first | (with_reducible first | exact HB.out | apply bA_ | apply bN_ | apply bD_) | exact HB.out)⟩⟩
    case round =>
      clear H'
      try clear c1
      try clear p2
      try clear c4
      try clear p6
      try clear c7
      obtain ⟨x5_1, x6_1, rfl, HA, HK1, HO_5, HB⟩ := hrel
      cases gk with
      | zero => exact absurd HA.out (by simp [cadencelaw4_SchemaMany.l0])
      | succ k1 =>
        have H := HA.out
        clear HA
        simp only [cadencelaw4_SchemaMany.l0] at H
        by_cases c8 : x6_1 < (wrap64 (10 + t407))
        · rw [if_pos c8] at H
          have c8b0 : decide (x6_1 < (wrap64 (10 + t407))) = true := decide_eq_true c8
          clear c8
          have H' := Aside0.mk H
          clear H
          go_wp2_with (first | ((with_reducible refine gate_dst (N := 7) rfl ?_); refine box_event ?hg (N := 7) ?hd (cs := #[.slice none 0 0, .bool false, .bool false]) (t := 33) ?hr ?_; (case hd => rfl); (case hg => rfl); (case hr => first | (go_simp; done) | (go_simp; rfl)); intro gb409 hg w9 hbox hb; have n0_ := Aside0.mk (Kd.R_below (Kd.R_elderB (by (with_reducible repeat (first | apply rA_ | apply rN_ | apply rD_)); exact HO_5.out) gb409 (Nat.le_of_eq hg.symm)) hb); have n1_ := Aside0.mk (below_step (by repeat (first | (with_reducible first | exact HB.out | apply bA_ | apply bN_ | apply bD_) | exact HB.out)) hb); have n2_ := Aside0.mk (hbox); have n3_ := Aside0.mk ((by rw [hg]; exact (below_size (by repeat (first | (with_reducible first | exact HB.out | apply bA_ | apply bN_ | apply bD_) | exact HB.out))) : w.heap.size ≤ gb409)); have n4_ := Aside0.mk ((by rw [hg]; exact (below_size (by repeat (first | (with_reducible first | exact HB.out | apply bA_ | apply bN_ | apply bD_) | exact HB.out))) : w.heap.size ≤ gb409)); clear HO_5; clear HB; have HO_5 := n0_; have HB := n1_; have BK409 := n2_; have GW409 := n3_; have GE409 := n4_; clear n0_ n1_ n2_ n3_ n4_; clear hb hbox hg))
          go_loopg [8] k1 (fun kq v8 w' => ∃ (x8_2 : Int) (x410000_2 : List (S40)) (u410000 : Value), v8 = .int .i64 x8_2 ∧ Aside0 (cadencelaw4_SchemaMany.l1 kq (wrap64 (10 + t407)) (wrap64 (4 + t408)) x5_1 x6_1 x8_2 x410000_2 false false = some r) ∧ Aside0 (kq ≤ k1) ∧ Aside0 (Kd.R k33 33 w' w.heap.size (fun k_ => some k_ ≠ (u410000 : Value).ownBlock ∧ k_ ≠ gb409) u5 x5_1) ∧ Aside0 (Kd.S k40 40 w' w.heap.size (fun _ => True) u410000 x410000_2) ∧ Aside0 (w'.heap[gb409]? = some (.cells #[u410000, .bool false, .bool false] 33 (0, 0))) ∧ Aside0 (Below w.heap.size w w'))
          case atStart => exact ⟨(0), (([] : List (S40))), (.slice none 0 0), (by first | rfl | (simp; done) | (simp [*]; done)), H', ⟨Nat.le_refl _⟩, ⟨by (with_reducible repeat (first | apply rA_ | apply rN_ | apply rD_)); exact Kd.R_mono HO_5.out (fun _ hk => ⟨(by simp [Value.ownBlock]), hk.2⟩)⟩, ⟨by first | exact Kd.S_nil _ _ _ _ _ | exact Kd.N_nil _ _ _ _ _ | exact Kd.V_nil _ _ _ _ _ | exact Kd.Q_nil _ _ _ _ _ | exact Kd.R_nil _ _ _ _ _⟩, ⟨by (with_reducible repeat (first | refine blk_drewN ?_ _ | refine blk_drew ?_ | refine blk_alloc ?_ _)); exact BK409.out⟩, ⟨by repeat (first | (with_reducible first | exact HB.out | apply bA_ | apply bN_ | apply bD_ | refine below_set ?_ GE409.out) | exact HB.out)⟩⟩
          case round =>
            clear H'
            try clear c1
            try clear p2
            try clear c4
            try clear p6
            try clear c7
            try clear c8
            try clear c8b0
            try clear p2
            try clear p6
            obtain ⟨x8_2, x410000_2, u410000, rfl, HA, HK2, HO_5, HO_410000, BK409, HB⟩ := hrel
            cases gk with
            | zero => exact absurd HA.out (by simp [cadencelaw4_SchemaMany.l1])
            | succ k2 =>
              have H := HA.out
              clear HA
              simp only [cadencelaw4_SchemaMany.l1] at H
              by_cases c10 : x8_2 < (wrap64 (4 + t408))
              · rw [if_pos c10] at H
                have c10b0 : decide (x8_2 < (wrap64 (4 + t408))) = true := decide_eq_true c10
                clear c10
                obtain ⟨y410, hy410⟩ : ∃ y_ : List Int, y_ = (([(wrap64 (97 + x8_2)) % 256] : List Int)) := ⟨_, rfl⟩
                replace H : (if x410000_2.length < 2932031007402 then (cadencelaw4_SchemaMany.l1 k2 (wrap64 (10 + t407)) (wrap64 (4 + t408)) x5_1 x6_1 (wrap64 (x8_2 + 1)) (x410000_2 ++ [(⟨(⟨false, (([strOfNums y410] : List ByteArray))⟩ : S38), x6_1, false⟩ : S40)]) false false) else (none)) = some r := by first | (rw [hy410]; with_reducible exact H) | (have H2_ := (Option.bind_some _ _).symm.trans H; rw [hy410]; with_reducible exact H2_) | (have H2_ := (Option.bind_some _ _).symm.trans H; with_reducible exact H2_) | with_reducible exact H | (rw [hy410]; exact H) | exact H
                have Ny410 := Aside0.mk hy410
                clear hy410
                obtain ⟨y413, hy413⟩ : ∃ y_ : List ByteArray, y_ = (([strOfNums y410] : List ByteArray)) := ⟨_, rfl⟩
                replace H : (if x410000_2.length < 2932031007402 then (cadencelaw4_SchemaMany.l1 k2 (wrap64 (10 + t407)) (wrap64 (4 + t408)) x5_1 x6_1 (wrap64 (x8_2 + 1)) (x410000_2 ++ [(⟨(⟨false, y413⟩ : S38), x6_1, false⟩ : S40)]) false false) else (none)) = some r := by first | (rw [hy413]; with_reducible exact H) | (have H2_ := (Option.bind_some _ _).symm.trans H; rw [hy413]; with_reducible exact H2_) | (have H2_ := (Option.bind_some _ _).symm.trans H; with_reducible exact H2_) | with_reducible exact H | (rw [hy413]; exact H) | exact H
                have Ny413 := Aside0.mk hy413
                clear hy413
                by_cases c11 : x410000_2.length < 2932031007402
                · rw [if_pos c11] at H
                  have LMc11 := Aside0.mk c11
                  clear c11
                  obtain ⟨y416, hy416⟩ : ∃ y_ : List (S40), y_ = (x410000_2 ++ [(⟨(⟨false, y413⟩ : S38), x6_1, false⟩ : S40)]) := ⟨_, rfl⟩
                  replace H : (cadencelaw4_SchemaMany.l1 k2 (wrap64 (10 + t407)) (wrap64 (4 + t408)) x5_1 x6_1 (wrap64 (x8_2 + 1)) y416 false false) = some r := by first | (rw [hy416]; with_reducible exact H) | (have H2_ := (Option.bind_some _ _).symm.trans H; rw [hy416]; with_reducible exact H2_) | (have H2_ := (Option.bind_some _ _).symm.trans H; with_reducible exact H2_) | with_reducible exact H | (rw [hy416]; exact H) | exact H
                  have Ny416 := Aside0.mk hy416
                  clear hy416
                  have H' := Aside0.mk H
                  clear H
                  have hcz12_0 : wr.cell? ⟨gb409, 0, none⟩ = some (u410000) := (blk_cell BK409.out 0).trans rfl
                  have hcz12_1 : wr.cell? ⟨gb409, 1, none⟩ = some (.bool false) := (blk_cell BK409.out 1).trans rfl
                  have hcz12_2 : wr.cell? ⟨gb409, 2, none⟩ = some (.bool false) := (blk_cell BK409.out 2).trans rfl
                  have hfz12_0 := blk_frozen BK409.out 0
                  have hfz12_1 := blk_frozen BK409.out 1
                  have hfz12_2 := blk_frozen BK409.out 2
                  go_wp2_with (first | ((with_reducible refine gate_dst (N := 32) rfl ?_); refine Kd.R_lit (Kd.int .u8) _ 5 ?hg (N := 32) ?hd (xs := ([(wrap64 (97 + x8_2)) % 256] : List Int)) (inner := [.int .u8 ((wrap64 (97 + x8_2)) % 256)]) (ok := fun _ => True) (okp := fun _ => True) ?hr ?hp (fun _ hk => hk) trivial (Below.refl _ _) (Nat.le_refl _) (by simp) ?_; (case hd => rfl); (case hg => rfl); (case hr => first | (go_simp; done) | (go_simp; rfl)); (case hp => exact (Reps.one (show Kd.M (Kd.int .u8) _ _ _ ((wrap64 (97 + x8_2)) % 256) [.int .u8 ((wrap64 (97 + x8_2)) % 256)] from rfl) (Reps.none _ _))); intro v411 w13 ho14 hb hg_ hnew_; clear hg_ hnew_; (first | rw [← Ny410.out] at ho14 | (simp only [Int.reduceToNat] at ho14; rw [← Ny410.out] at ho14)); have n0_ := Aside0.mk (Kd.R_below (by (with_reducible repeat (first | apply rA_ | apply rN_ | apply rD_)); exact HO_5.out) hb); have n1_ := Aside0.mk (Kd.S_below (by (with_reducible repeat (first | apply Kd.S_alloc | apply Kd.S_drewN | apply Kd.S_drew)); exact HO_410000.out) hb); have n2_ := Aside0.mk (Kd.R_lower ho14 (below_size (by repeat (first | (with_reducible first | exact HB.out | apply bA_ | apply bN_ | apply bD_ | refine below_set ?_ GE409.out) | exact HB.out)))); have n3_ := Aside0.mk (blk_below (g := gb409) (o := .cells #[u410000, .bool false, .bool false] 33 (0, 0)) (by (with_reducible repeat (first | refine blk_drewN ?_ _ | refine blk_drew ?_ | refine blk_alloc ?_ _)); exact BK409.out) hb); have n4_ := Aside0.mk (below_step (by repeat (first | (with_reducible first | exact HB.out | apply bA_ | apply bN_ | apply bD_ | refine below_set ?_ GE409.out) | exact HB.out)) hb); clear HO_5; clear HO_410000; clear BK409; clear HB; have HO_5 := n0_; have HO_410000 := n1_; have HO412 := n2_; have BK409 := n3_; have HB := n4_; clear n0_ n1_ n2_ n3_ n4_; clear hb ho14; have hcv15 := own_string (P := Try.prog) Try.underlying41 Try.underlying5 Try.underlying9 (Kd.own_of_R HO412.out)) | ((with_reducible refine gate_dst (N := 34) rfl ?_); refine Kd.R_lit Kd.string _ 9 ?hg (N := 34) ?hd (xs := ([strOfNums y410] : List ByteArray)) (inner := [.string (strOfNums y410)]) (ok := fun _ => True) (okp := fun _ => True) ?hr ?hp (fun _ hk => hk) trivial (Below.refl _ _) (Nat.le_refl _) (by simp) ?_; (case hd => rfl); (case hg => rfl); (case hr => first | (go_simp; done) | (go_simp; rfl)); (case hp => exact (Reps.one (show Kd.M Kd.string _ _ _ (strOfNums y410) [.string (strOfNums y410)] from rfl) (Reps.none _ _))); intro v414 w16 ho17 hb hg_ hnew_; clear hg_ hnew_; (first | rw [← Ny413.out] at ho17 | (simp only [Int.reduceToNat] at ho17; rw [← Ny413.out] at ho17)); have n0_ := Aside0.mk (Kd.R_elder' (by (with_reducible repeat (first | apply rA_ | apply rN_ | apply rD_)); exact HO_5.out) (Kd.R_base ho17) hb); have n1_ := Aside0.mk (Kd.S_elder' (by (with_reducible repeat (first | apply Kd.S_alloc | apply Kd.S_drewN | apply Kd.S_drew)); exact HO_410000.out) (Kd.R_base ho17) hb); have n2_ := Aside0.mk (Kd.R_below (by (with_reducible repeat (first | apply rA_ | apply rN_ | apply rD_)); exact HO412.out) hb); have n3_ := Aside0.mk (Kd.R_lower ho17 (below_size (by repeat (first | (with_reducible first | exact HB.out | apply bA_ | apply bN_ | apply bD_ | refine below_set ?_ GE409.out) | exact HB.out)))); have n4_ := Aside0.mk (blk_below (g := gb409) (o := .cells #[u410000, .bool false, .bool false] 33 (0, 0)) (by (with_reducible repeat (first | refine blk_drewN ?_ _ | refine blk_drew ?_ | refine blk_alloc ?_ _)); exact BK409.out) hb); have n5_ := Aside0.mk (below_step (by repeat (first | (with_reducible first | exact HB.out | apply bA_ | apply bN_ | apply bD_ | refine below_set ?_ GE409.out) | exact HB.out)) hb); clear HO_5; clear HO_410000; clear HO412; clear BK409; clear HB; have HO_5 := n0_; have HO_410000 := n1_; have HO412 := n2_; have HO415 := n3_; have BK409 := n4_; have HB := n5_; clear n0_ n1_ n2_ n3_ n4_ n5_; clear hb ho17; obtain ⟨Ao18, co18, eo18⟩ := Kd.R_slice HO415.out; subst eo18) | ((with_reducible refine gate_builtin (b := .append) (xs := #[.tmp 28, .tmp 38]) rfl ?_); at_builtin; refine Kd.S_append k40 (w0 := w) w.heap.size rfl (.tmp 28) (.tmp 38) 31 40 (.agg #[(.bool false), (.slice none 0 0), (.int .i64 0), (.bool false)]) 48 rfl Try.underlying31 info40 rfl (by decide) (by omega) u410000 x410000_2 (⟨(⟨false, y413⟩ : S38), x6_1, false⟩ : S40) [.bool false, .slice Ao18 y413.length co18, .int .i64 x6_1, .bool false] (fun _ => True) (fun k_ => some k_ = (.slice Ao18 y413.length co18 : Value).ownBlock) rfl rfl ?aP (fun k_ hk_ => ((Kd.R_mono (ok' := fun k_ => ((fun _ => True)) k_ ∧ some k_ ≠ (u410000 : Value).ownBlock) (Kd.R_apart' (HO415.out) (Kd.S_typed HO_410000.out) (by decide)) (fun k_ hk => ⟨trivial, hk.2⟩))).1 k_ hk_.symm) ?aF ?aO ?aB ?aS ?aL ?_; (case aP => exact k40_mkM _ _ _ (⟨(⟨false, y413⟩ : S38), x6_1, false⟩ : S40) (Kd.R_mono (Kd.R_tight rfl (Kd.R_mono (ok' := fun k_ => ((fun _ => True)) k_ ∧ some k_ ≠ (u410000 : Value).ownBlock) (Kd.R_apart' (HO415.out) (Kd.S_typed HO_410000.out) (by decide)) (fun k_ hk => ⟨trivial, hk.2⟩))) (fun _ h_ => h_))); (case aB => exact (by repeat (first | (with_reducible first | exact HB.out | apply bA_ | apply bN_ | apply bD_ | refine below_set ?_ GE409.out) | exact HB.out))); (case aF => exact (fun _ _ => trivial)); (case aO => exact (by (with_reducible repeat (first | apply Kd.S_alloc | apply Kd.S_drewN | apply Kd.S_drew)); exact Kd.S_mono HO_410000.out (fun k_ hk => ⟨trivial, fun e_ => hk.2 e_⟩))); (case aS => exact (below_size (by repeat (first | (with_reducible first | exact HB.out | apply bA_ | apply bN_ | apply bD_ | refine below_set ?_ GE409.out) | exact HB.out)))); (case aL => have := LMc11.out; omega); intro v417 w19 ho hb hg hat; rw [← Ny416.out] at ho; have n0_ := Aside0.mk (Kd.R_after (ok := (fun k_ => some k_ ≠ (.slice Ao18 y413.length co18 : Value).ownBlock ∧ k_ ≠ gb409)) (by (with_reducible repeat (first | apply rA_ | apply rN_ | apply rD_)); exact Kd.R_mono HO_5.out (fun _ hk => ⟨⟨hk.2, hk.1.2⟩, hk.1.1⟩)) hg hat); have n1_ := Aside0.mk (blk_grown (g := gb409) (o := .cells #[u410000, .bool false, .bool false] 33 (0, 0)) (by (with_reducible repeat (first | refine blk_drewN ?_ _ | refine blk_drew ?_ | refine blk_alloc ?_ _)); exact BK409.out) hg (Kd.S_ne HO_410000.out BK409.out (by decide))); have n2_ := Aside0.mk (Kd.R_over' (by (with_reducible repeat (first | apply rA_ | apply rN_ | apply rD_)); exact HO412.out) (Kd.S_typed (by (with_reducible repeat (first | apply Kd.S_alloc | apply Kd.S_drewN | apply Kd.S_drew)); exact HO_410000.out)) (by decide) hg); have n3_ := Aside0.mk (hb); have n4_ := Aside0.mk (ho); clear HO_5; clear BK409; clear HO412; clear HB; clear HO_410000; clear HO415; have HO_5 := n0_; have BK409 := n1_; have HO412 := n2_; have HB := n3_; have HO418 := n4_; clear n0_ n1_ n2_ n3_ n4_; clear ho hb hg hat; obtain ⟨Ao20, co20, eo20⟩ := Kd.S_slice HO418.out; subst eo20; have hcz21_0 : w19.cell? ⟨gb409, 0, none⟩ = some (u410000) := (blk_cell BK409.out 0).trans rfl; have hcz21_1 : w19.cell? ⟨gb409, 1, none⟩ = some (.bool false) := (blk_cell BK409.out 1).trans rfl; have hcz21_2 : w19.cell? ⟨gb409, 2, none⟩ = some (.bool false) := (blk_cell BK409.out 2).trans rfl; have hfz21_0 := blk_frozen BK409.out 0; have hfz21_1 := blk_frozen BK409.out 1; have hfz21_2 := blk_frozen BK409.out 2))
                  go_roundg k2
                  case measure => have := HK1.out; have := HK2.out; omega
                  case rel => exact ⟨(wrap64 (x8_2 + 1)), (y416), (.slice Ao20 y416.length co20), (by first | rfl | (simp; done) | (simp [*]; done)), H', ⟨by have := HK1.out; have := HK2.out; omega⟩, ⟨by (with_reducible repeat (first | apply rA_ | apply rN_ | apply rD_)); exact Kd.R_mono (Kd.R_far (p := ⟨gb409, 0, none⟩) (Kd.R_mono HO_5.out (fun k_ hk => (⟨hk, hk.1.2⟩ : _ ∧ k_ ≠ gb409))) (fun _ hk => hk.2) (.slice Ao20 y416.length co20)) (fun _ hk => ⟨hk.1.2, hk.1.1.2⟩)⟩, ⟨by (with_reducible repeat (first | apply Kd.S_alloc | apply Kd.S_drewN | apply Kd.S_drew)); exact Kd.S_mono (Kd.S_far (p := ⟨gb409, 0, none⟩) (Kd.S_types HO418.out BK409.out (by decide)) (fun _ hk => hk.2) (.slice Ao20 y416.length co20)) (fun _ hk => trivial)⟩, ⟨by (with_reducible repeat (first | refine blk_drewN ?_ _ | refine blk_drew ?_ | refine blk_alloc ?_ _)); refine blk_put (cs := #[u410000, .bool false, .bool false]) ?_ 0 _ rfl; (with_reducible repeat (first | refine blk_drewN ?_ _ | refine blk_drew ?_ | refine blk_alloc ?_ _)); exact BK409.out⟩, ⟨by repeat (first | (with_reducible first | exact HB.out | apply bA_ | apply bN_ | apply bD_ | refine below_set ?_ GE409.out) | exact HB.out)⟩⟩
                · rw [if_neg c11] at H
                  exact absurd H (by simp)
              · rw [if_neg c10] at H
                have c10b0 : decide (x8_2 < (wrap64 (4 + t408))) = false := decide_eq_false c10
                clear c10
                by_cases c22 : x5_1.length < 4398046511104
                · rw [if_pos c22] at H
                  have LMc22 := Aside0.mk c22
                  clear c22
                  obtain ⟨y419, hy419⟩ : ∃ y_ : List (S33), y_ = (x5_1 ++ [(⟨x410000_2, false, false⟩ : S33)]) := ⟨_, rfl⟩
                  replace H : (cadencelaw4_SchemaMany.l0 k2 (wrap64 (10 + t407)) (wrap64 (4 + t408)) y419 (wrap64 (x6_1 + 1))) = some r := by first | (rw [hy419]; with_reducible exact H) | (have H2_ := (Option.bind_some _ _).symm.trans H; rw [hy419]; with_reducible exact H2_) | (have H2_ := (Option.bind_some _ _).symm.trans H; with_reducible exact H2_) | with_reducible exact H | (rw [hy419]; exact H) | exact H
                  have Ny419 := Aside0.mk hy419
                  clear hy419
                  have H' := Aside0.mk H
                  clear H
                  have hcz23_0 : wr.cell? ⟨gb409, 0, none⟩ = some (u410000) := (blk_cell BK409.out 0).trans rfl
                  have hcz23_1 : wr.cell? ⟨gb409, 1, none⟩ = some (.bool false) := (blk_cell BK409.out 1).trans rfl
                  have hcz23_2 : wr.cell? ⟨gb409, 2, none⟩ = some (.bool false) := (blk_cell BK409.out 2).trans rfl
                  have hfz23_0 := blk_frozen BK409.out 0
                  have hfz23_1 := blk_frozen BK409.out 1
                  have hfz23_2 := blk_frozen BK409.out 2
                  obtain ⟨Ao25, co25, eo25⟩ := Kd.S_slice HO_410000.out
                  subst eo25
                  go_wp2_with (first | ((with_reducible refine gate_builtin (b := .append) (xs := #[.tmp 41, .tmp 43]) rfl ?_); at_builtin; refine Kd.R_append k33 (w0 := w) w.heap.size rfl (.tmp 41) (.tmp 43) 23 33 (.agg #[(.slice none 0 0), (.bool false), (.bool false)]) 32 rfl Try.underlying23 info33 rfl (by decide) (by omega) u5 x5_1 (⟨x410000_2, false, false⟩ : S33) [.slice Ao25 x410000_2.length co25, .bool false, .bool false] (fun k_ => k_ ≠ gb409) (fun k_ => ((fun k_ => k_ ≠ gb409)) k_ ∧ some k_ ≠ (u5 : Value).ownBlock) rfl rfl ?aP (fun _ hk => hk) ?aF ?aO ?aB ?aS ?aL ?_; (case aP => exact k33_mkM _ _ _ (⟨x410000_2, false, false⟩ : S33) (Kd.R_mono (Kd.R_types (Kd.R_apart' ((Kd.S_R HO_410000.out)) (Kd.R_typed HO_5.out) (by decide)) BK409.out (by decide)) (fun k_ hk => ⟨hk.2, hk.1.2⟩))); (case aB => exact (by repeat (first | (with_reducible first | exact HB.out | apply bA_ | apply bN_ | apply bD_ | refine below_set ?_ GE409.out) | exact HB.out))); (case aF => exact (fun k_ hk => Kd.freshB (g := gb409) (o := .cells #[.slice Ao25 x410000_2.length co25, .bool false, .bool false] 33 (0, 0)) (by (with_reducible repeat (first | refine blk_drewN ?_ _ | refine blk_drew ?_ | refine blk_alloc ?_ _)); exact BK409.out) k_ hk)); (case aO => exact (by (with_reducible repeat (first | apply rA_ | apply rN_ | apply rD_)); exact Kd.R_mono HO_5.out (fun _ hk => hk.2))); (case aS => exact (below_size (by repeat (first | (with_reducible first | exact HB.out | apply bA_ | apply bN_ | apply bD_ | refine below_set ?_ GE409.out) | exact HB.out)))); (case aL => have := LMc22.out; omega); intro v420 w24 ho hb hg hat; rw [← Ny419.out] at ho; have n0_ := Aside0.mk (blk_grown (g := gb409) (o := .cells #[.slice Ao25 x410000_2.length co25, .bool false, .bool false] 33 (0, 0)) (by (with_reducible repeat (first | refine blk_drewN ?_ _ | refine blk_drew ?_ | refine blk_alloc ?_ _)); exact BK409.out) hg (Kd.R_away HO_5.out (fun _ hk => hk.2))); have n1_ := Aside0.mk (hb); have n2_ := Aside0.mk (ho); clear BK409; clear HB; clear HO_5; clear HO_410000; have BK409 := n0_; have HB := n1_; have HO421 := n2_; clear n0_ n1_ n2_; clear ho hb hg hat))
                  go_roundg k2
                  case measure => have := HK1.out; have := HK2.out; omega
                  case rel => exact ⟨(y419), (wrap64 (x6_1 + 1)), (by first | rfl | (simp; done) | (simp [*]; done)), H', ⟨by have := HK1.out; have := HK2.out; omega⟩, ⟨by (with_reducible repeat (first | apply rA_ | apply rN_ | apply rD_)); exact Kd.R_mono HO421.out (fun _ hk => trivial)⟩, ⟨by repeat (first | (with_reducible first | exact HB.out | apply bA_ | apply bN_ | apply bD_ | refine below_set ?_ GE409.out) | exact HB.out)⟩⟩
                · rw [if_neg c22] at H
                  exact absurd H (by simp)
        · rw [if_neg c8] at H
          have c8b0 : decide (x6_1 < (wrap64 (10 + t407))) = false := decide_eq_false c8
          clear c8
          have HC26 := Aside0.mk H
          clear H
          go_upto_region 14 with (fail)
          go_cut [50] (fun v50 wc => ∃ (kq : Nat) (x50_25 : Bool), v50 = .bool x50_25 ∧ Aside0 (cadencelaw4_SchemaMany.j2 kq x5_1 x50_25 = some r) ∧ Aside0 (kq ≤ k1) ∧ Aside0 (Kd.R k33 33 wc w.heap.size (fun _ => True) u5 x5_1) ∧ Aside0 (Below w.heap.size w wc))
          case first =>
            have H := HC26.out
            clear HC26
            by_cases c27 : (wrap64 (10 + t407)) > 12
            · rw [if_pos c27] at H
              have c27b0 : decide (12 < (wrap64 (10 + t407))) = true := decide_eq_true c27
              clear c27
              (first | rw [c27b0] | (simp only [i64_w, i32_w]; rw [c27b0]) | skip)
              have H' := Aside0.mk H
              clear H
              go_wp2
              go_meet
              case rel => exact ⟨_, (true), (by first | rfl | (simp; done) | (simp [*]; done)), H', ⟨by have := HK1.out; first | omega | exact Nat.le_refl _⟩, ⟨by (with_reducible repeat (first | apply rA_ | apply rN_ | apply rD_)); exact HO_5.out⟩, ⟨by repeat (first | (with_reducible first | exact HB.out | apply bA_ | apply bN_ | apply bD_) | exact HB.out)⟩⟩
            · rw [if_neg c27] at H
              have c27b0 : decide (12 < (wrap64 (10 + t407))) = false := decide_eq_false c27
              clear c27
              (first | rw [c27b0] | (simp only [i64_w, i32_w]; rw [c27b0]) | skip)
              have H' := Aside0.mk H
              clear H
              go_wp2
              go_meet
              case rel => exact ⟨_, (decide ((wrap64 (4 + t408)) > 6)), (by first | rfl | (simp; done) | (simp [*]; done)), H', ⟨by have := HK1.out; first | omega | exact Nat.le_refl _⟩, ⟨by (with_reducible repeat (first | apply rA_ | apply rN_ | apply rD_)); exact HO_5.out⟩, ⟨by repeat (first | (with_reducible first | exact HB.out | apply bA_ | apply bN_ | apply bD_) | exact HB.out)⟩⟩
          case rest =>
            clear HC26
            try clear c1
            try clear hcv1
            try clear c2
            try clear p2
            try clear c4
            try clear p6
            try clear c7
            try clear c8
            try clear c8b0
            try clear c10
            try clear c10b0
            try clear c11
            try clear c13
            try clear hcv15
            try clear c22
            try clear c27
            try clear c27b0
            try clear hcz12_0
            try clear hcz12_1
            try clear hcz12_2
            try clear hcz21_0
            try clear hcz21_1
            try clear hcz21_2
            try clear hcz23_0
            try clear hcz23_1
            try clear hcz23_2
            try clear hfz12_0
            try clear hfz12_1
            try clear hfz12_2
            try clear hfz21_0
            try clear hfz21_1
            try clear hfz21_2
            try clear hfz23_0
            try clear hfz23_1
            try clear hfz23_2
            try clear p2
            try clear p6
            obtain ⟨kq, x50_25, rfl, HA, HJ25, HO_5, HB⟩ := hcut
            cases kq with
            | zero => exact absurd HA.out (by simp [cadencelaw4_SchemaMany.j2])
            | succ kj25 =>
              have H := HA.out
              clear HA
              simp only [cadencelaw4_SchemaMany.j2] at H
              by_cases c28 : x50_25 = true
              · subst c28
                have H1 : ((schema_Check.f kj25 x5_1).bind fun t422 => (some (t422 == 4))) = some r := by rw [if_pos rfl] at H; exact H
                clear H
                have H := H1
                clear H1
                replace H := Option.bind_eq_some_iff.mp H
                obtain ⟨t422, A290, H⟩ := H
                replace H : (some (t422 == 4)) = some r := H
                have A29 := Aside0.mk A290
                clear A290
                obtain rfl := Option.some.inj H
                obtain ⟨Ao30, co30, eo30⟩ := Kd.R_slice HO_5.out
                subst eo30
                go_wp2_with (first | ((with_reducible refine gate_callee (f := 11) rfl ?_); refine goesL_ (some 52) rfl rfl Try.func11 (by kernel_rfl) rfl #[.slice Ao30 x5_1.length co30] rfl (by (try simp only [List.map_toArray, List.map_cons, List.map_nil]); first | done | rfl | (simp only [List.length_drop, List.length_take]; rfl)) ?_; (with_reducible refine (schema_Check.calls kj25 _ _ x5_1 t422 _ ?side1 ?side2 A29.out).mono ?_); (case side1 => repeat (first | exact (Kd.R_reads' HO_5.out).2.2 | (with_reducible refine cA_ ?_ _) | (with_reducible refine cN_ ?_ _) | (with_reducible refine cD_ ?_))); (case side2 => exact (Kd.R_reads' HO_5.out).2.1); rintro e w31 ⟨rfl, hb⟩; refine ⟨_, rfl, ?_⟩; have n0_ := Aside0.mk (Kd.R_below (by (with_reducible repeat (first | apply rA_ | apply rN_ | apply rD_)); exact HO_5.out) hb); have n1_ := Aside0.mk (below_step (by repeat (first | (with_reducible first | exact HB.out | apply bA_ | apply bN_ | apply bD_) | exact HB.out)) hb); clear HO_5; clear HB; have HO_5 := n0_; have HB := n1_; clear n0_ n1_; (try clear hb); (try clear hb2); (try clear hk); (try clear hi)))
                go_ret
                exact ⟨by first | rfl | (simp [errW_none, errW_some] <;> rfl) | (simp [*, errW_none, errW_some] <;> rfl), by repeat (first | (with_reducible first | exact HB.out | apply bA_ | apply bN_ | apply bD_) | exact HB.out)⟩
              · replace c28 := Bool.eq_false_iff.mpr c28
                subst c28
                have H1 : ((schema_Check.f kj25 x5_1).bind fun t423 => (if t423 = 0 then ((schema_Check.f kj25 ([] : List (S33))).bind fun t424 => (some (t424 == 2))) else (some false))) = some r := by rw [if_neg (show ¬ (false = true) by decide)] at H; exact H
                clear H
                have H := H1
                clear H1
                replace H := Option.bind_eq_some_iff.mp H
                obtain ⟨t423, A320, H⟩ := H
                replace H : (if t423 = 0 then ((schema_Check.f kj25 ([] : List (S33))).bind fun t424 => (some (t424 == 2))) else (some false)) = some r := H
                have A32 := Aside0.mk A320
                clear A320
                by_cases c33 : t423 = 0
                · rw [if_pos c33] at H
                  have c33b0 : (t423 == 0) = true := beq_iff_eq.mpr c33
                  have c33b1 : (t423 != 0) = false := bne_eq_false_iff_eq.mpr c33
                  clear c33
                  replace H := Option.bind_eq_some_iff.mp H
                  obtain ⟨t424, A340, H⟩ := H
                  replace H : (some (t424 == 2)) = some r := H
                  have A34 := Aside0.mk A340
                  clear A340
                  obtain rfl := Option.some.inj H
                  obtain ⟨Ao35, co35, eo35⟩ := Kd.R_slice HO_5.out
                  subst eo35
                  go_wp2_with (first | ((with_reducible refine gate_callee (f := 11) rfl ?_); refine goesL_ (some 55) rfl rfl Try.func11 (by kernel_rfl) rfl #[.slice Ao35 x5_1.length co35] rfl (by (try simp only [List.map_toArray, List.map_cons, List.map_nil]); first | done | rfl | (simp only [List.length_drop, List.length_take]; rfl)) ?_; (with_reducible refine (schema_Check.calls kj25 _ _ x5_1 t423 _ ?side1 ?side2 A32.out).mono ?_); (case side1 => repeat (first | exact (Kd.R_reads' HO_5.out).2.2 | (with_reducible refine cA_ ?_ _) | (with_reducible refine cN_ ?_ _) | (with_reducible refine cD_ ?_))); (case side2 => exact (Kd.R_reads' HO_5.out).2.1); rintro e w36 ⟨rfl, hb⟩; refine ⟨_, rfl, ?_⟩; have n0_ := Aside0.mk (Kd.R_below (by (with_reducible repeat (first | apply rA_ | apply rN_ | apply rD_)); exact HO_5.out) hb); have n1_ := Aside0.mk (below_step (by repeat (first | (with_reducible first | exact HB.out | apply bA_ | apply bN_ | apply bD_) | exact HB.out)) hb); clear HO_5; clear HB; have HO_5 := n0_; have HB := n1_; clear n0_ n1_; (try clear hb); (try clear hb2); (try clear hk); (try clear hi)) | (go_at_call 11; (refine (schema_Check.calls kj25 _ _ ([] : List (S33)) t424 _ ?side1 ?side2 A34.out).mono ?_); (case side1 => exact Kd.C_nil _ _); (case side2 => exact Nat.le_refl _); rintro e w37 ⟨rfl, hb⟩; have n0_ := Aside0.mk (Kd.R_below (by (with_reducible repeat (first | apply rA_ | apply rN_ | apply rD_)); exact HO_5.out) hb); have n1_ := Aside0.mk (below_step (by repeat (first | (with_reducible first | exact HB.out | apply bA_ | apply bN_ | apply bD_) | exact HB.out)) hb); clear HO_5; clear HB; have HO_5 := n0_; have HB := n1_; clear n0_ n1_; (try clear hb); (try clear hb2); (try clear hk); (try clear hi)))
                  go_ret
                  exact ⟨by first | rfl | (simp [errW_none, errW_some] <;> rfl) | (simp [*, errW_none, errW_some] <;> rfl), by repeat (first | (with_reducible first | exact HB.out | apply bA_ | apply bN_ | apply bD_) | exact HB.out)⟩
                · rw [if_neg c33] at H
                  have c33b0 : (t423 == 0) = false := beq_eq_false_iff_ne.mpr c33
                  have c33b1 : (t423 != 0) = true := bne_iff_ne.mpr c33
                  obtain rfl := Option.some.inj H
                  obtain ⟨Ao38, co38, eo38⟩ := Kd.R_slice HO_5.out
                  subst eo38
                  go_wp2_with (first | ((with_reducible refine gate_callee (f := 11) rfl ?_); refine goesL_ (some 55) rfl rfl Try.func11 (by kernel_rfl) rfl #[.slice Ao38 x5_1.length co38] rfl (by (try simp only [List.map_toArray, List.map_cons, List.map_nil]); first | done | rfl | (simp only [List.length_drop, List.length_take]; rfl)) ?_; (with_reducible refine (schema_Check.calls kj25 _ _ x5_1 t423 _ ?side1 ?side2 A32.out).mono ?_); (case side1 => repeat (first | exact (Kd.R_reads' HO_5.out).2.2 | (with_reducible refine cA_ ?_ _) | (with_reducible refine cN_ ?_ _) | (with_reducible refine cD_ ?_))); (case side2 => exact (Kd.R_reads' HO_5.out).2.1); rintro e w39 ⟨rfl, hb⟩; refine ⟨_, rfl, ?_⟩; have n0_ := Aside0.mk (Kd.R_below (by (with_reducible repeat (first | apply rA_ | apply rN_ | apply rD_)); exact HO_5.out) hb); have n1_ := Aside0.mk (below_step (by repeat (first | (with_reducible first | exact HB.out | apply bA_ | apply bN_ | apply bD_) | exact HB.out)) hb); clear HO_5; clear HB; have HO_5 := n0_; have HB := n1_; clear n0_ n1_; (try clear hb); (try clear hb2); (try clear hk); (try clear hi)))
                  go_ret
                  exact ⟨by first | rfl | (simp [errW_none, errW_some] <;> rfl) | (simp [*, errW_none, errW_some] <;> rfl), by repeat (first | (with_reducible first | exact HB.out | apply bA_ | apply bN_ | apply bD_) | exact HB.out)⟩
  · replace c4 := Bool.eq_false_iff.mpr c4
    subst c4
    have H1 : (some false) = some r := by rw [if_neg (show ¬ (false = true) by decide)] at H; exact H
    clear H
    have H := H1
    clear H1
    obtain rfl := Option.some.inj H
    go_enter Try.func7, Try.ntmps7
    go_wp2_with (first | ((with_reducible refine gate_callee (f := 8) rfl ?_); refine goesL_ (some 9) rfl rfl Try.func8 (by kernel_rfl) rfl #[] rfl (by (try simp only [List.map_toArray, List.map_cons, List.map_nil]); first | done | rfl | (simp only [List.length_drop, List.length_take]; rfl)) ?_; (with_reducible refine (cadencelaw4_known.calls k  false _ A3.out).mono ?_); rintro e w40 ⟨rfl, hb⟩; refine ⟨_, rfl, ?_⟩; have n0_ := Aside0.mk (below_step (by repeat (first | (with_reducible first | exact HB.out | apply bA_ | apply bN_ | apply bD_) | exact HB.out)) hb); clear HB; have HB := n0_; clear n0_; (try clear hb); (try clear hb2); (try clear hk); (try clear hi)))
    go_ret
    exact ⟨by first | rfl | (simp [errW_none, errW_some] <;> rfl) | (simp [*, errW_none, errW_some] <;> rfl), by repeat (first | (with_reducible first | exact HB.out | apply bA_ | apply bN_ | apply bD_) | exact HB.out)⟩

end Go.Proofs.Ytoihiehoolehiaa.PX
/- The chapter's example; SchemaMany. -/
set_option linter.unusedVariables false
set_option linter.unusedSimpArgs false
namespace Go.Proofs.Ytoihiehoolehiaa.PX
open Go.RowKit Go.Proofs.YtoihiehoolehiaaW.PrintWords Go.Proofs.YtoihiehoolehiaaW.PrintLast Go.Proofs.YtoihiehoolehiaaW.PrintMore Go.Proofs.Ytoihiehoolehiaa
theorem trOk_nil : trOk [] = true := by rw [trOk_eq]; rfl
theorem known4 : Ev (fun k => cadencelaw4_known.f k) true := by
  obtain ⟨K, hK⟩ := check_ev [(⟨[], false, false⟩ : S33)] (fun d hd => by
    simp only [List.mem_singleton] at hd
    subst hd
    exact ⟨by simp, fun f hf => by cases hf⟩)
  have hok : ScOk [(⟨[], false, false⟩ : S33)] := ⟨by simp, fun d hd => by
    simp only [List.mem_singleton] at hd
    subst hd
    exact ⟨by simp, fun f hf => by cases hf⟩⟩
  have h1 : schema_Fits.f [(⟨[], false, false⟩ : S33)] 0 [] = some true := by
    unfold schema_Fits.f
    rw [if_pos ⟨hok, trOk_nil⟩, fitsM_eq]
    rfl
  have h2 : schema_Fits.f [(⟨[], false, false⟩ : S33)] 0 [⟨⟨#[97]⟩, []⟩] = some false := by
    unfold schema_Fits.f
    rw [if_pos ⟨hok, by rw [trOk_eq]; simp [trOk_nil]⟩, fitsM_eq]
    rfl
  have h3 : schema_To.f [(⟨[], false, false⟩ : S33)] 0 ⟨#[97]⟩ = some (-1) := by
    unfold schema_To.f
    rw [if_pos hok]
    rfl
  refine ⟨K, fun k hk => ?_⟩
  have hc : schema_Check.f k [(⟨[], false, false⟩ : S33)] = some 0 := hK k hk
  show cadencelaw4_known.f k = some true
  unfold cadencelaw4_known.f
  simp only [Option.bind_some]
  rw [hc]
  simp only [Option.bind_some, if_pos]
  rw [h1]
  simp only [Option.bind_some, if_pos]
  rw [h2]
  simp only [Option.bind_some]
  rw [if_neg (by simp), h3]
  rfl
def nm (k : Nat) : ByteArray := strOfNums [(wrap64 (97 + (k : Int))) % 256]
def manyF (i k : Nat) : S40 := ⟨⟨false, [nm k]⟩, (i : Int), false⟩
def manyD (m i : Nat) : S33 := ⟨(List.range m).map (manyF i), false, false⟩
def many (n m : Nat) : Sc := (List.range n).map (manyD m)
theorem nm_size (k : Nat) : (nm k).size = 1 := by
  unfold nm
  rfl
theorem nm_ne : ∀ j, j < 8 → ∀ k, k < 8 → j ≠ k → nm j ≠ nm k := by decide +kernel
theorem setB_nil : setB [] = [] := List.eq_nil_iff_forall_not_mem.2 fun x hx => by simpa using setB_mem.1 hx
theorem apart_one {a b : ByteArray} (h : a ≠ b) : apartN ⟨false, [a]⟩ ⟨false, [b]⟩ = true := by
  have e : (setB [a]).filter (fun z => hasL [b] z == true) = [] := by
    rw [List.filter_eq_nil_iff]
    intro z hz hh
    have h1 := setB_mem.1 hz
    simp only [List.mem_singleton] at h1
    subst h1
    have := (hasL_iff [b] z).1 (by simpa using hh)
    simp only [List.mem_singleton] at this
    exact h this
  unfold apartN bothM
  simp only [Bool.false_eq_true, if_false]
  rw [e, setB_nil]
  rfl
theorem many_field (n m i k : Nat) (hi : i < n) (hk : k < m) (hm : m ≤ 8) : fieldM n (((List.range m).map (manyF i)).take k) (manyF i k) = 0 := by
  have ha : ((((List.range m).map (manyF i)).take k).any fun o => !apartN o.f0 (manyF i k).f0) = false := by
    rw [List.any_eq_false]
    intro o ho
    obtain ⟨j, hj, rfl⟩ := List.mem_iff_getElem.1 ho
    have hj' : j < k := by
      rw [List.length_take] at hj
      omega
    simp only [List.getElem_take, List.getElem_map, List.getElem_range]
    show ¬ (!apartN ⟨false, [nm j]⟩ ⟨false, [nm k]⟩) = true
    rw [apart_one (nm_ne j (by omega) k (by omega) (by omega))]
    simp
  unfold fieldM
  rw [ha, if_neg (by show ¬ 20 < 1; omega), if_neg (by show ¬ ([nm k].any fun x => decide (80 < x.size)) = true; rw [List.any_cons, List.any_nil, nm_size]; simp), if_neg (by show ¬ ((i : Int) < 0 ∨ (n : Int) ≤ (i : Int)); omega), if_neg (by show ¬ (false && false) = true; simp), if_neg (by simp)]
theorem fieldsM_zero (n : Nat) (fs : List S40) (h : ∀ i (hi : i < fs.length), fieldM n (fs.take i) fs[i] = 0) : ∀ d i, fieldsM n fs d i = 0
  | 0, _ => rfl
  | d + 1, i => by
    rw [fieldsM]
    split
    · rename_i hi
      rw [if_pos (h i hi)]
      exact fieldsM_zero n fs h d (i + 1)
    · rfl
theorem defsM_zero (n : Nat) : ∀ (s : Sc), (∀ d ∈ s, defM n d = 0) → defsM n s = 0
  | [], _ => rfl
  | d :: t, h => by
    rw [defsM, if_pos (h d (by simp))]
    exact defsM_zero n t fun x hx => h x (by simp [hx])
theorem many_check (n m : Nat) (hn : 1 ≤ n) (hm : m ≤ 8) : checkM (many n m) = if n > 12 ∨ m > 6 then 4 else 0 := by
  have hl : (many n m).length = n := by simp [many]
  unfold checkM
  rw [hl, if_neg (by omega)]
  by_cases h : 12 < n
  · rw [if_pos h, if_pos (.inl h)]
  · rw [if_neg h]
    by_cases h6 : 6 < m
    · rw [if_pos (.inr h6)]
      obtain ⟨n, rfl⟩ : ∃ n', n = n' + 1 := ⟨n - 1, by omega⟩
      have e : defM (n + 1) (manyD m 0) = 4 := by
        unfold defM manyD
        rw [if_pos (by simpa using h6)]
      unfold many
      rw [List.range_succ_eq_map, List.map_cons, defsM, e]
      rfl
    · rw [if_neg (by omega)]
      refine defsM_zero _ _ fun d hd => ?_
      obtain ⟨i, hi, rfl⟩ := List.mem_map.1 hd
      have hi := List.mem_range.1 hi
      unfold defM
      rw [if_neg (by simp [manyD]; omega)]
      refine fieldsM_zero _ _ (fun k hk => ?_) _ _
      have hk' : k < m := by simpa [manyD] using hk
      have := many_field n m i k hi hk' hm
      simpa [manyD] using this
theorem many_few (n m : Nat) (hm : m ≤ 8) : ScFew (many n m) := fun d hd => by
  obtain ⟨i, hi, rfl⟩ := List.mem_map.1 hd
  refine ⟨by simp [manyD]; omega, fun f hf => ?_⟩
  obtain ⟨k, hk, rfl⟩ := List.mem_map.1 hf
  show [nm k].length ≤ 1000000000
  simp
theorem within_ev (a : Int) (h : -9223372036854775808 ≤ a ∧ a ≤ 9223372036854775807) : ∃ j : Nat, j < 5 ∧ cadencelaw4_within.f a 5 = some (j : Int) := by
  unfold cadencelaw4_within.f
  rw [if_neg (by omega)]
  have h2 := Int.tmod_lt_of_pos a (show (0 : Int) < 5 by omega)
  have h3 := Int.lt_tmod_of_pos a (show (0 : Int) < 5 by omega)
  split
  · rename_i hlt
    refine ⟨(Int.tmod a 5 + 5).toNat, by omega, ?_⟩
    rw [wrap_id (by omega) (by omega)]
    congr 1
    omega
  · rename_i hlt
    refine ⟨(Int.tmod a 5).toNat, by omega, ?_⟩
    congr 1
    omega
theorem range_snoc {α : Type} (f : Nat → α) (k : Nat) : (List.range k).map f ++ [f k] = (List.range (k + 1)).map f := by
  rw [List.range_succ, List.map_append]; rfl
theorem many_ev (a b : Int) (ha : -9223372036854775808 ≤ a ∧ a ≤ 9223372036854775807) (hb : -9223372036854775808 ≤ b ∧ b ≤ 9223372036854775807) : Ev (fun k => cadencelaw4_SchemaMany.f k a b) true := by
  obtain ⟨p, hp, ep⟩ := within_ev a ha
  obtain ⟨q, hq, eq⟩ := within_ev b hb
  obtain ⟨K1, h1⟩ := known4
  have hfin : Ev (fun k => cadencelaw4_SchemaMany.l0 k ((10 + p : Nat) : Int) ((4 + q : Nat) : Int) (many (10 + p) (4 + q)) ((10 + p : Nat) : Int)) true := by
    obtain ⟨K2, h2⟩ := check_ev (many (10 + p) (4 + q)) (many_few _ _ (by omega))
    obtain ⟨K3, h3⟩ := check_ev [] (fun d hd => by cases hd)
    have hc := many_check (10 + p) (4 + q) (by omega) (by omega)
    refine ⟨K2 + K3 + 2, fun k hk => ?_⟩
    obtain ⟨k, rfl⟩ : ∃ k', k = k' + 1 + 1 := ⟨k - 2, by omega⟩
    have h2 : schema_Check.f k (many (10 + p) (4 + q)) = _ := h2 k (by omega)
    have h3 : schema_Check.f k [] = some 2 := h3 k (by omega)
    show cadencelaw4_SchemaMany.l0 (k + 1 + 1) ((10 + p : Nat) : Int) ((4 + q : Nat) : Int) (many (10 + p) (4 + q)) ((10 + p : Nat) : Int) = some true
    have e : cadencelaw4_SchemaMany.l0 (k + 1 + 1) ((10 + p : Nat) : Int) ((4 + q : Nat) : Int) (many (10 + p) (4 + q)) ((10 + p : Nat) : Int) = cadencelaw4_SchemaMany.j2 (k + 1) (many (10 + p) (4 + q)) (decide (10 + p > 12 ∨ 4 + q > 6)) := by
      rw [cadencelaw4_SchemaMany.l0, if_neg (by omega)]
      by_cases g : 10 + p > 12
      · rw [if_pos (by omega), decide_eq_true (.inl g)]
      · rw [if_neg (by omega)]
        congr 1
        rw [decide_eq_decide]
        omega
    rw [e, cadencelaw4_SchemaMany.j2, h2, h3, hc]
    by_cases g : 10 + p > 12 ∨ 4 + q > 6
    · rw [decide_eq_true g, if_pos rfl, if_pos g]; rfl
    · rw [decide_eq_false g, if_neg (by simp), if_neg g]; rfl
  have inner : ∀ (i : Nat), i < 10 + p → Ev (fun k => cadencelaw4_SchemaMany.l0 k ((10 + p : Nat) : Int) ((4 + q : Nat) : Int) (many (i + 1) (4 + q)) ((i + 1 : Nat) : Int)) true → ∀ d j : Nat, 4 + q - j ≤ d → j ≤ 4 + q → Ev (fun k => cadencelaw4_SchemaMany.l1 k ((10 + p : Nat) : Int) ((4 + q : Nat) : Int) (many i (4 + q)) (i : Int) (j : Int) ((List.range j).map (manyF i)) false false) true := by
    intro i hi hnext d
    have last : Ev (fun k => cadencelaw4_SchemaMany.l1 k ((10 + p : Nat) : Int) ((4 + q : Nat) : Int) (many i (4 + q)) (i : Int) ((4 + q : Nat) : Int) ((List.range (4 + q)).map (manyF i)) false false) true := by
      refine Ev.step (fun k => ?_) hnext
      rw [cadencelaw4_SchemaMany.l1, if_neg (by omega), if_pos (by simp [many]; omega), wrap_succ (by omega)]
      congr 1
      exact range_snoc (manyD (4 + q)) i
    induction d with
    | zero =>
      intro j hd hj
      obtain rfl : j = 4 + q := by omega
      exact last
    | succ d ih =>
      intro j hd hj
      by_cases h : j < 4 + q
      · refine Ev.step (fun k => ?_) (ih (j + 1) (by omega) (by omega))
        rw [cadencelaw4_SchemaMany.l1, if_pos (by omega), if_pos (by simp; omega), wrap_succ (by omega), ← range_snoc]
        rfl
      · obtain rfl : j = 4 + q := by omega
        exact last
  have outer : ∀ d i : Nat, 10 + p - i ≤ d → i ≤ 10 + p → Ev (fun k => cadencelaw4_SchemaMany.l0 k ((10 + p : Nat) : Int) ((4 + q : Nat) : Int) (many i (4 + q)) (i : Int)) true := by
    intro d
    induction d with
    | zero =>
      intro i hd hi
      obtain rfl : i = 10 + p := by omega
      exact hfin
    | succ d ih =>
      intro i hd hi
      by_cases h : i < 10 + p
      · refine Ev.step (fun k => ?_) (inner i h (ih (i + 1) (by omega) (by omega)) (4 + q) 0 (by omega) (Nat.zero_le _))
        rw [cadencelaw4_SchemaMany.l0, if_pos (by omega)]
        rfl
      · obtain rfl : i = 10 + p := by omega
        exact hfin
  obtain ⟨K2, h2⟩ := outer (10 + p) 0 (by omega) (Nat.zero_le _)
  refine ⟨K1 + K2, fun k hk => ?_⟩
  have h1 : cadencelaw4_known.f k = some true := h1 k (by omega)
  have h2 : cadencelaw4_SchemaMany.l0 k ((10 + p : Nat) : Int) ((4 + q : Nat) : Int) (many 0 (4 + q)) ((0 : Nat) : Int) = some true := h2 k (by omega)
  show cadencelaw4_SchemaMany.f k a b = some true
  unfold cadencelaw4_SchemaMany.f
  rw [h1]
  simp only [Option.bind_some, if_pos]
  rw [ep, eq]
  simp only [Option.bind_some]
  rw [wrap_id (by omega) (by omega), wrap_id (by omega) (by omega)]
  exact h2
end Go.Proofs.Ytoihiehoolehiaa.PX
set_option linter.unusedVariables false
set_option linter.unusedSimpArgs false
namespace Go.Proofs.Ytoihiehoolehiaa.schemaMany
open Go.ChangeShapes Go.WideShapes Go.ChangeAt Go.RowKit
open Go.ChangeMaps (open_string shut_string)
open Go.Proofs.Ytoihiehoolehiaa.PX
theorem own : ownKnob Try.prog.godebug = none := by kernel_rfl
theorem laidOut : laidOutB Try.prog = true := by kernel_rfl
set_option maxRecDepth 100000 in
theorem lifted (os : Os) (started : os.Started) (H : Type) (enc : TypeId × Value → H) :
    ReturnsInHanded {} Try.checked os 7 .any (Rows.schemaManySpec.pre6 enc Try.prog Try.f7 Rows.schemaManyRow.domain false) (Rows.schemaManySpec.post enc Try.prog Try.f7 false true false false) := by
  refine returnsInHanded_of_change_sized (C := Try.checked) own started (by kernel_rfl) Try.func7
    (ChangeSpec.witness6 (enc := enc) (C := Try.checked) false ⟨#[], #[.int .i64 0, .int .i64 0], []⟩ 8 (by kernel_rfl) (by kernel_rfl) (by kernel_rfl) (by kernel_rfl)) ?_
  intro W base args ds gs before hval0 hW hcnd hsz0 _
  have hsz : (DataW.weightsEach Try.prog (Try.f7.params.toList ++ Rows.schemaManySpec.plain.varTypes Try.prog) (ds ++ gs)).all (· ≤ reachBytes) = true := hsz0
  have hval : ∀ (j : Nat) t v, Try.f7.params[j]? = some t → args[j]? = some v → Value.okWide Try.prog W .any base t v := hval0
  have hW' := hW
  obtain ⟨p, q, hA0, hV, rfl, hfz, hnd⟩ := hW
  have hA : DataW.TrodAll enc Try.prog W 0 (fun _ => true) true Try.f7.params.toList args.toList ds p := hA0
  rw [Try.params7] at hA hval hsz
  obtain ⟨v0, vs0, d0, ds0, p0, q0, hargs, rfl, rfl, h0, r0⟩ := trodAll_cons hA
  obtain ⟨v1, vs1, d1, ds1, p1, q1, rfl, rfl, rfl, h1, r1⟩ := trodAll_cons r0
  obtain ⟨rfl, rfl, rfl⟩ := trodAll_nil r1
  obtain rfl : args = #[v0, v1] := by cases args; simp_all
  obtain ⟨rfl, rfl⟩ := trodVars_none hV
  have lt0 : ∀ x ∈ p0, x.block < W.heap.size := by obtain ⟨m, hm⟩ := h0; exact DataW.trod_lt m _ _ _ hm
  have k0 := h0
  have lt1 : ∀ x ∈ p1, x.block < W.heap.size := by obtain ⟨m, hm⟩ := h1; exact DataW.trod_lt m _ _ _ hm
  have k1 := h1
  obtain ⟨x0, rfl, _, _, w0⟩ := open_int Try.underlying3 (hval 0 3 v0 rfl rfl) h0
  obtain ⟨x1, rfl, _, _, w1⟩ := open_int Try.underlying3 (hval 1 3 v1 rfl rfl) h1
  clear hA0 hval0 hsz0 hsz
  obtain ⟨k, hk⟩ := (many_ev x0 x1 (bounds_i64 w0) (bounds_i64 w1)).rounds
  refine (cadencelaw4_SchemaMany.calls k x0 x1 true W hk).mono fun e W' ⟨he, bel⟩ => ?_
  subst he
  exact ⟨_, rfl, _, _, _, [], _, [], hW', trodAll_mk1 (shut_bool Try.underlying4 _), (trodAll_cons_mk (Below.trod laidOut (by kernel_rfl) (of_decide_eq_true (by kernel_rfl)) k0 bel lt0) (trodAll_cons_mk (Below.trod laidOut (by kernel_rfl) (of_decide_eq_true (by kernel_rfl)) k1 bel lt1) trodAll_mk0)), rfl, bel.frame _, fun h => by cases h⟩

theorem over : Rows.schemaManyRow.holds Try.pinned (OpenSpec.ofChange Rows.schemaManySpec) :=
  OpenClaim.holds_of_wide 7 Try.f7 rfl rfl rfl rfl rfl rfl rfl ⟨rfl, rfl, rfl, rfl, rfl⟩ rfl rfl rfl rfl rfl (by kernel_rfl) Try.func7 (by kernel_rfl)
    (of_decide_eq_true (by kernel_rfl)) (by unfold Func.isWrapper; first | (rw [if_pos (by decide +kernel)]; kernel_rfl) | (rw [if_neg (by decide +kernel)]; exact ⟨rfl, rfl⟩))
    (fun os started H enc _ => lifted os started H enc)

theorem proved : Rows.SchemaManySaid := over
#print axioms proved
end Go.Proofs.Ytoihiehoolehiaa.schemaMany
