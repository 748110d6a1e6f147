/-
  The statement of 'NamesOf': the Go function returns true at every input, and its arguments read as before.
  Conditions: none.
-/
import Derived.Test.YtbjkfllghkcgcaaMNamesOf1
import Derived.Test.YtbjkfllghkcgcaaMNamesOf2
import Derived.Deep.Slices
import Derived.SizedLaws
import Derived.SliceStrings
import Derived.ChangeSame
import Derived.ChangeShapes
import Derived.ChangeAt
import Derived.WideShapes
import Derived.Test.YtbjkfllghkcgcaaRows
import Derived.WalkKit
import Derived.ProofKit
import Derived.OpenShut
import Derived.ShutString
import Derived.ChangeOld
import Derived.Below
-- written by wip/tools/hybrid.py (over the kit's print.py, with functions proved by hand beside it) for this claim
namespace Go.Proofs.Ytbjkfllghkcgcaa.PX
open Go.RowKit Go.Proofs.YtbjkfllghkcgcaaW.PrintWords Go.Proofs.YtbjkfllghkcgcaaW.PrintLast Go.Proofs.YtbjkfllghkcgcaaW.PrintMore
attribute [local go_sem] max2_int min2_int max_two min_two max_three min_three max_four min_four   -- for this text's walks alone
set_option linter.unusedVariables false
set_option linter.unusedSimpArgs false

attribute [local go_sem] run_field_25_0 run_field_56_0
/-! ### cadencelaw3_NamesOf: function 3 -/
mutual
def cadencelaw3_NamesOf.j0 : Nat → List (S52) → Bool → Bool → List ByteArray → Option (Bool)
  | 0, _, _, _, _ => none
  | k + 1, x0, x22, x229000, x229001 => if x22 = true then (some true) else ((cadencelaw2_Make.f k x0 10 3).bind fun t232 => ((names_Of.f k t232 x229000 x229001).bind fun bt235 => ((cadenceref3_Of.f k t232 x229000 x229001).bind fun bt241 => ((cadenceref2_Same.f k bt235.1 bt241.1).bind fun t247 => (if t247 = true then ((cadenceref2_Same.f k bt235.2 bt241.2).bind fun t248 => (if t248 = true then (cadencelaw3_NamesOf.j1 k t232 bt235.1 bt235.2 ((wrap64 ((bt235.1.length : Int) + (bt235.2.length : Int))) != (t232.length : Int)) x229000 x229001) else (cadencelaw3_NamesOf.j1 k t232 bt235.1 bt235.2 true x229000 x229001))) else (cadencelaw3_NamesOf.j1 k t232 bt235.1 bt235.2 true x229000 x229001))))))
def cadencelaw3_NamesOf.j1 : Nat → List (S37) → List (S37) → List (S37) → Bool → Bool → List ByteArray → Option (Bool)
  | 0, _, _, _, _, _, _ => none
  | k + 1, x5, x6, x7, x56, x229000, x229001 => if x56 = true then (some false) else (cadencelaw3_NamesOf.l0 k x5 x6 x7 0 x229000 x229001)
def cadencelaw3_NamesOf.l0 : Nat → List (S37) → List (S37) → List (S37) → Int → Bool → List ByteArray → Option (Bool)
  | 0, _, _, _, _, _, _ => none
  | k + 1, x5, x6, x7, x10, x229000, x229001 => if x10 < (x6.length : Int) then (if 0 ≤ x10 then ((names_Has.f k x229000 x229001 ((rd_T37 x6 x10).f0)).bind fun t250 => (if t250 = true then (cadencelaw3_NamesOf.l0 k x5 x6 x7 (wrap64 (x10 + 1)) x229000 x229001) else (some false))) else (none)) else ((names_Not.f x229000 x229001).bind fun bt251 => ((names_Of.f k x5 bt251.1 bt251.2).bind fun bt255 => ((cadenceref2_Same.f k bt255.1 x7).bind fun t261 => (if t261 = true then ((cadenceref2_Same.f k bt255.2 x6).bind fun t262 => (some t262)) else (some false)))))
end
def cadencelaw3_NamesOf.f (k : Nat) (l0 : List (S52)) (a1_0 : Bool) (l1_1 : List ByteArray) : Option (Bool) := (cadencelaw3_known.f).bind fun t229 => (if t229 = true then ((cadencelaw2_Few.f k l0).bind fun t230 => (if t230 = true then ((cadencelaw3_Few.f a1_0 l1_1).bind fun t231 => (cadencelaw3_NamesOf.j0 k l0 (!t231) a1_0 l1_1)) else (cadencelaw3_NamesOf.j0 k l0 true a1_0 l1_1))) else (some false))
theorem cadencelaw3_NamesOf.mono_l : ∀ k, (∀ y0 y1 y2 y3, LeO (cadencelaw3_NamesOf.j0 k y0 y1 y2 y3) (cadencelaw3_NamesOf.j0 (k + 1) y0 y1 y2 y3)) ∧ (∀ y0 y1 y2 y3 y4 y5, LeO (cadencelaw3_NamesOf.j1 k y0 y1 y2 y3 y4 y5) (cadencelaw3_NamesOf.j1 (k + 1) y0 y1 y2 y3 y4 y5)) ∧ (∀ y0 y1 y2 y3 y4 y5, LeO (cadencelaw3_NamesOf.l0 k y0 y1 y2 y3 y4 y5) (cadencelaw3_NamesOf.l0 (k + 1) y0 y1 y2 y3 y4 y5))
  | 0 => ⟨fun _ _ _ _ r h => by simp [cadencelaw3_NamesOf.j0] at h, fun _ _ _ _ _ _ r h => by simp [cadencelaw3_NamesOf.j1] at h, fun _ _ _ _ _ _ r h => by simp [cadencelaw3_NamesOf.l0] at h⟩
  | k + 1 => by
    obtain ⟨ih0, ih1, ih2⟩ := cadencelaw3_NamesOf.mono_l k
    refine ⟨?_, ?_, ?_⟩
    · intro y0 y1 y2 y3
      unfold cadencelaw3_NamesOf.j0
      repeat' first
      | (with_reducible exact ih0 _ _ _ _)
      | (with_reducible exact ih1 _ _ _ _ _ _)
      | (with_reducible exact ih2 _ _ _ _ _ _)
      | (with_reducible exact cadencelaw2_Few.mono _ _)
      | (with_reducible exact cadencelaw2_Make.mono _ _ _ _)
      | (with_reducible exact cadenceref2_Same.mono _ _ _)
      | (with_reducible exact cadenceref3_Of.mono _ _ _ _)
      | (with_reducible exact names_Has.mono _ _ _ _)
      | (with_reducible exact names_Of.mono _ _ _ _)
      | (with_reducible exact LeO.refl _)
      | (with_reducible exact LeO.none _)
      | (with_reducible refine LeO.ite ?_ ?_)
      | (with_reducible refine LeO.bind ?_ (fun _ => ?_))
      | exact ih0 _ _ _ _
      | exact ih1 _ _ _ _ _ _
      | exact ih2 _ _ _ _ _ _
      | exact cadencelaw2_Few.mono _ _
      | exact cadencelaw2_Make.mono _ _ _ _
      | exact cadenceref2_Same.mono _ _ _
      | exact cadenceref3_Of.mono _ _ _ _
      | exact names_Has.mono _ _ _ _
      | exact names_Of.mono _ _ _ _
      | exact LeO.none _
      | refine LeO.ite ?_ ?_
      | refine LeO.bind ?_ (fun _ => ?_)
    · intro y0 y1 y2 y3 y4 y5
      unfold cadencelaw3_NamesOf.j1
      repeat' first
      | (with_reducible exact ih0 _ _ _ _)
      | (with_reducible exact ih1 _ _ _ _ _ _)
      | (with_reducible exact ih2 _ _ _ _ _ _)
      | (with_reducible exact cadencelaw2_Few.mono _ _)
      | (with_reducible exact cadencelaw2_Make.mono _ _ _ _)
      | (with_reducible exact cadenceref2_Same.mono _ _ _)
      | (with_reducible exact cadenceref3_Of.mono _ _ _ _)
      | (with_reducible exact names_Has.mono _ _ _ _)
      | (with_reducible exact names_Of.mono _ _ _ _)
      | (with_reducible exact LeO.refl _)
      | (with_reducible exact LeO.none _)
      | (with_reducible refine LeO.ite ?_ ?_)
      | (with_reducible refine LeO.bind ?_ (fun _ => ?_))
      | exact ih0 _ _ _ _
      | exact ih1 _ _ _ _ _ _
      | exact ih2 _ _ _ _ _ _
      | exact cadencelaw2_Few.mono _ _
      | exact cadencelaw2_Make.mono _ _ _ _
      | exact cadenceref2_Same.mono _ _ _
      | exact cadenceref3_Of.mono _ _ _ _
      | exact names_Has.mono _ _ _ _
      | exact names_Of.mono _ _ _ _
      | exact LeO.none _
      | refine LeO.ite ?_ ?_
      | refine LeO.bind ?_ (fun _ => ?_)
    · intro y0 y1 y2 y3 y4 y5
      unfold cadencelaw3_NamesOf.l0
      repeat' first
      | (with_reducible exact ih0 _ _ _ _)
      | (with_reducible exact ih1 _ _ _ _ _ _)
      | (with_reducible exact ih2 _ _ _ _ _ _)
      | (with_reducible exact cadencelaw2_Few.mono _ _)
      | (with_reducible exact cadencelaw2_Make.mono _ _ _ _)
      | (with_reducible exact cadenceref2_Same.mono _ _ _)
      | (with_reducible exact cadenceref3_Of.mono _ _ _ _)
      | (with_reducible exact names_Has.mono _ _ _ _)
      | (with_reducible exact names_Of.mono _ _ _ _)
      | (with_reducible exact LeO.refl _)
      | (with_reducible exact LeO.none _)
      | (with_reducible refine LeO.ite ?_ ?_)
      | (with_reducible refine LeO.bind ?_ (fun _ => ?_))
      | exact ih0 _ _ _ _
      | exact ih1 _ _ _ _ _ _
      | exact ih2 _ _ _ _ _ _
      | exact cadencelaw2_Few.mono _ _
      | exact cadencelaw2_Make.mono _ _ _ _
      | exact cadenceref2_Same.mono _ _ _
      | exact cadenceref3_Of.mono _ _ _ _
      | exact names_Has.mono _ _ _ _
      | exact names_Of.mono _ _ _ _
      | exact LeO.none _
      | refine LeO.ite ?_ ?_
      | refine LeO.bind ?_ (fun _ => ?_)
theorem cadencelaw3_NamesOf.mono : ∀ a0 a1 a2 k, LeO (cadencelaw3_NamesOf.f k a0 a1 a2) (cadencelaw3_NamesOf.f (k + 1) a0 a1 a2) := by
  intro a0 a1 a2 k
  obtain ⟨ih0, ih1, ih2⟩ := cadencelaw3_NamesOf.mono_l k
  unfold cadencelaw3_NamesOf.f
  repeat' first
      | (with_reducible exact ih0 _ _ _ _)
      | (with_reducible exact ih1 _ _ _ _ _ _)
      | (with_reducible exact ih2 _ _ _ _ _ _)
      | (with_reducible exact cadencelaw2_Few.mono _ _)
      | (with_reducible exact cadencelaw2_Make.mono _ _ _ _)
      | (with_reducible exact cadenceref2_Same.mono _ _ _)
      | (with_reducible exact cadenceref3_Of.mono _ _ _ _)
      | (with_reducible exact names_Has.mono _ _ _ _)
      | (with_reducible exact names_Of.mono _ _ _ _)
      | (with_reducible exact LeO.refl _)
      | (with_reducible exact LeO.none _)
      | (with_reducible refine LeO.ite ?_ ?_)
      | (with_reducible refine LeO.bind ?_ (fun _ => ?_))
      | exact ih0 _ _ _ _
      | exact ih1 _ _ _ _ _ _
      | exact ih2 _ _ _ _ _ _
      | exact cadencelaw2_Few.mono _ _
      | exact cadencelaw2_Make.mono _ _ _ _
      | exact cadenceref2_Same.mono _ _ _
      | exact cadenceref3_Of.mono _ _ _ _
      | exact names_Has.mono _ _ _ _
      | exact names_Of.mono _ _ _ _
      | exact LeO.none _
      | refine LeO.ite ?_ ?_
      | refine LeO.bind ?_ (fun _ => ?_)
def cadencelaw3_NamesOf.T13 : Bool × List (List Nat × List Nat) := (true, [([], []), ([], []), ([], []), ([1, 2], [1, 2]), ([3], [3]), ([4], [4]), ([0, 5], [0, 5]), ([6], [6])])
def cadencelaw3_NamesOf.B13 : List Nat := [0, 0, 0, 6, 14, 30, 63, 127]
theorem cadencelaw3_NamesOf.tab13 : rtab .any (opsOf Try.f3 13) = cadencelaw3_NamesOf.T13 := by kernel_rfl
theorem cadencelaw3_NamesOf.bits13 : waitsOk cadencelaw3_NamesOf.T13.2 cadencelaw3_NamesOf.B13 = true := by kernel_rfl
set_option maxHeartbeats 8000000 in
set_option maxRecDepth 100000 in
theorem cadencelaw3_NamesOf.calls (k : Nat) (A0 : Option Addr) (c0 : Nat) (l0 : List (S52)) (a1_0 : Bool) (A1_1 : Option Addr) (c1_1 : Nat) (l1_1 : List ByteArray) (r : Bool) (w : World) (hr0 : Kd.C k52 w A0 l0.length l0) (hc0 : l0.length ≤ c0) (hr1_1 : Kd.C Kd.string w A1_1 l1_1.length l1_1) (hc1_1 : l1_1.length ≤ c1_1) (h : cadencelaw3_NamesOf.f k l0 a1_0 l1_1 = some r) :
    Calls Try.prog 3 #[.slice A0 l0.length c0, .agg #[.bool a1_0, .slice A1_1 l1_1.length c1_1]] w fun e w' => e = .returned (.bool r) ∧ Below w.heap.size w w' := by
  have hu25 := Try.underlying25
  have HR0 := Aside0.mk hr0
  have HC0 := Aside0.mk hc0
  clear hr0 hc0
  have HR1_1 := Aside0.mk hr1_1
  have HC1_1 := Aside0.mk hc1_1
  clear hr1_1 hc1_1
  have HB := Aside0.mk (Below.refl w.heap.size w)
  have H : ((cadencelaw3_known.f).bind fun t229 => (if t229 = true then ((cadencelaw2_Few.f k l0).bind fun t230 => (if t230 = true then ((cadencelaw3_Few.f a1_0 l1_1).bind fun t231 => (cadencelaw3_NamesOf.j0 k l0 (!t231) a1_0 l1_1)) else (cadencelaw3_NamesOf.j0 k l0 true a1_0 l1_1))) else (some false))) = some r := h
  clear h
  replace H := Option.bind_eq_some_iff.mp H
  obtain ⟨t229, A30, H⟩ := H
  replace H : (if t229 = true then ((cadencelaw2_Few.f k l0).bind fun t230 => (if t230 = true then ((cadencelaw3_Few.f a1_0 l1_1).bind fun t231 => (cadencelaw3_NamesOf.j0 k l0 (!t231) a1_0 l1_1)) else (cadencelaw3_NamesOf.j0 k l0 true a1_0 l1_1))) else (some false)) = some r := H
  have A3 := Aside0.mk A30
  clear A30
  by_cases c4 : t229 = true
  · subst c4
    have H1 : ((cadencelaw2_Few.f k l0).bind fun t230 => (if t230 = true then ((cadencelaw3_Few.f a1_0 l1_1).bind fun t231 => (cadencelaw3_NamesOf.j0 k l0 (!t231) a1_0 l1_1)) else (cadencelaw3_NamesOf.j0 k l0 true a1_0 l1_1))) = some r := by rw [if_pos rfl] at H; exact H
    clear H
    have H := H1
    clear H1
    have HC5 := Aside0.mk H
    clear H
    go_enter Try.func3, Try.ntmps3
    go_upto_region 3 with (first | ((with_reducible refine gate_dst (N := 3) rfl ?_); (try (refine gate_guard (by rfl) ?_; dsimp only)); refine box_event ?hg (N := 3) ?hd (cs := #[.bool a1_0, .slice A1_1 l1_1.length c1_1]) (t := 25) ?hr ?_; (case hd => rfl); (case hg => rfl); (case hr => first | (go_simp; done) | (go_simp; rfl)); intro gb228 hg w6 hbox hb; have n0_ := Aside0.mk (below_step (by repeat (first | (with_reducible first | exact HB.out | apply bA_ | apply bN_ | apply bD_) | exact HB.out)) hb); have n1_ := Aside0.mk (hbox); have n2_ := Aside0.mk ((by rw [hg]; exact (below_size (by repeat (first | (with_reducible first | exact HB.out | apply bA_ | apply bN_ | apply bD_) | exact HB.out))) : w.heap.size ≤ gb228)); have n3_ := Aside0.mk ((by rw [hg]; exact (below_size (by repeat (first | (with_reducible first | exact HB.out | apply bA_ | apply bN_ | apply bD_) | exact HB.out))) : w.heap.size ≤ gb228)); clear HB; have HB := n0_; have BK228 := n1_; have GW228 := n2_; have GE228 := n3_; clear n0_ n1_ n2_ n3_; clear hb hbox hg) | ((with_reducible refine gate_callee (f := 8) rfl ?_); refine goesL_ (some 13) rfl rfl Try.func8 (by kernel_rfl) rfl #[] rfl (by (try simp only [List.map_toArray, List.map_cons, List.map_nil]); first | done | rfl | (simp only [List.length_drop, List.length_take]; rfl)) ?_; (with_reducible refine (cadencelaw3_known.calls  true _ A3.out).mono ?_); rintro e w7 ⟨rfl, hb⟩; refine ⟨_, rfl, ?_⟩; have n0_ := Aside0.mk (blk_below (g := gb228) (o := .cells #[.bool a1_0, .slice A1_1 l1_1.length c1_1] 25 (0, 0)) (by (with_reducible repeat (first | refine blk_drewN ?_ _ | refine blk_drew ?_ | refine blk_alloc ?_ _)); exact BK228.out) hb); have n1_ := Aside0.mk (below_step (by repeat (first | (with_reducible first | exact HB.out | apply bA_ | apply bN_ | apply bD_ | refine below_set ?_ GE228.out) | exact HB.out)) hb); clear BK228; clear HB; have BK228 := n0_; have HB := n1_; clear n0_ n1_; (try clear hb); (try clear hb2); (try clear hk); (try clear hi)))
    (try simp only [Act.put, List.setIfInBounds_toArray, List.set_cons_zero, List.set_cons_succ])
    go_cut [22] (fun v22 wc => ∃ (kq : Nat) (x22_4 : Bool), v22 = .bool x22_4 ∧ Aside0 (cadencelaw3_NamesOf.j0 kq l0 x22_4 a1_0 l1_1 = some r) ∧ Aside0 (kq ≤ k) ∧ Aside0 (wc.heap[gb228]? = some (.cells #[.bool a1_0, (.slice A1_1 l1_1.length c1_1)] 25 (0, 0))) ∧ Aside0 (Below w.heap.size w wc))
    case first =>
      have H := HC5.out
      clear HC5
      replace H := Option.bind_eq_some_iff.mp H
      obtain ⟨t230, A80, H⟩ := H
      replace H : (if t230 = true then ((cadencelaw3_Few.f a1_0 l1_1).bind fun t231 => (cadencelaw3_NamesOf.j0 k l0 (!t231) a1_0 l1_1)) else (cadencelaw3_NamesOf.j0 k l0 true a1_0 l1_1)) = some r := H
      have A8 := Aside0.mk A80
      clear A80
      by_cases c9 : t230 = true
      · subst c9
        have H1 : ((cadencelaw3_Few.f a1_0 l1_1).bind fun t231 => (cadencelaw3_NamesOf.j0 k l0 (!t231) a1_0 l1_1)) = some r := by rw [if_pos rfl] at H; exact H
        clear H
        have H := H1
        clear H1
        replace H := Option.bind_eq_some_iff.mp H
        obtain ⟨t231, A100, H⟩ := H
        replace H : (cadencelaw3_NamesOf.j0 k l0 (!t231) a1_0 l1_1) = some r := H
        have A10 := Aside0.mk A100
        clear A100
        have H' := Aside0.mk H
        clear H
        go_wp2_with (first | ((with_reducible refine gate_callee (f := 9) rfl ?_); refine goesL_ (some 16) rfl rfl Try.func9 (by kernel_rfl) rfl #[.slice A0 l0.length c0] rfl (by (try simp only [List.map_toArray, List.map_cons, List.map_nil]); first | done | rfl | (simp only [List.length_drop, List.length_take]; rfl)) ?_; (with_reducible refine (cadencelaw2_Few.calls k _ _ l0 true _ ?side1 ?side2 A8.out).mono ?_); (case side1 => repeat (first | exact (Kd.C_below HR0.out HB.out) | (with_reducible refine cA_ ?_ _) | (with_reducible refine cN_ ?_ _) | (with_reducible refine cD_ ?_))); (case side2 => exact HC0.out); rintro e w' ⟨rfl, ⟨nd, rfl⟩⟩; refine ⟨_, rfl, ?_⟩; have hcz11_0 : w7.cell? ⟨gb228, 0, none⟩ = some (.bool a1_0) := (blk_cell BK228.out 0).trans rfl; have hcz11_1 : w7.cell? ⟨gb228, 1, none⟩ = some (.slice A1_1 l1_1.length c1_1) := (blk_cell BK228.out 1).trans rfl; have hfz11_0 := blk_frozen BK228.out 0; have hfz11_1 := blk_frozen BK228.out 1) | (go_at_call 10; (with_reducible refine (cadencelaw3_Few.calls a1_0 _ _ l1_1 t231 _ ?side1 ?side2 A10.out).mono ?_); (case side1 => repeat (first | exact (Kd.C_below HR1_1.out (by repeat (first | (with_reducible first | exact HB.out | apply bA_ | apply bN_ | apply bD_ | refine below_set ?_ GE228.out) | exact HB.out))) | (with_reducible refine cA_ ?_ _) | (with_reducible refine cN_ ?_ _) | (with_reducible refine cD_ ?_))); (case side2 => exact HC1_1.out); rintro e w12 ⟨rfl, hb⟩; have n0_ := Aside0.mk (blk_below (g := gb228) (o := .cells #[.bool a1_0, .slice A1_1 l1_1.length c1_1] 25 (0, 0)) (by (with_reducible repeat (first | refine blk_drewN ?_ _ | refine blk_drew ?_ | refine blk_alloc ?_ _)); exact BK228.out) hb); have n1_ := Aside0.mk (below_step (by repeat (first | (with_reducible first | exact HB.out | apply bA_ | apply bN_ | apply bD_ | refine below_set ?_ GE228.out) | exact HB.out)) hb); clear BK228; clear HB; have BK228 := n0_; have HB := n1_; clear n0_ n1_; (try clear hb); (try clear hb2); (try clear hk); (try clear hi)))
        go_meet
        case rel => exact ⟨_, (!t231), (by first | rfl | (simp; done) | (simp [*]; done)), H', ⟨by first | omega | exact Nat.le_refl _⟩, ⟨by (with_reducible repeat (first | refine blk_drewN ?_ _ | refine blk_drew ?_ | refine blk_alloc ?_ _)); exact BK228.out⟩, ⟨by repeat (first | (with_reducible first | exact HB.out | apply bA_ | apply bN_ | apply bD_ | refine below_set ?_ GE228.out) | exact HB.out)⟩⟩
      · replace c9 := Bool.eq_false_iff.mpr c9
        subst c9
        have H1 : (cadencelaw3_NamesOf.j0 k l0 true a1_0 l1_1) = some r := by rw [if_neg (show ¬ (false = true) by decide)] at H; exact H
        clear H
        have H := H1
        clear H1
        have H' := Aside0.mk H
        clear H
        go_wp2_with (first | ((with_reducible refine gate_callee (f := 9) rfl ?_); refine goesL_ (some 16) rfl rfl Try.func9 (by kernel_rfl) rfl #[.slice A0 l0.length c0] rfl (by (try simp only [List.map_toArray, List.map_cons, List.map_nil]); first | done | rfl | (simp only [List.length_drop, List.length_take]; rfl)) ?_; (with_reducible refine (cadencelaw2_Few.calls k _ _ l0 false _ ?side1 ?side2 A8.out).mono ?_); (case side1 => repeat (first | exact (Kd.C_below HR0.out HB.out) | (with_reducible refine cA_ ?_ _) | (with_reducible refine cN_ ?_ _) | (with_reducible refine cD_ ?_))); (case side2 => exact HC0.out); rintro e w' ⟨rfl, ⟨nd, rfl⟩⟩; refine ⟨_, rfl, ?_⟩))
        go_meet
        case rel => exact ⟨_, (true), (by first | rfl | (simp; done) | (simp [*]; done)), H', ⟨by first | omega | exact Nat.le_refl _⟩, ⟨by (with_reducible repeat (first | refine blk_drewN ?_ _ | refine blk_drew ?_ | refine blk_alloc ?_ _)); exact BK228.out⟩, ⟨by repeat (first | (with_reducible first | exact HB.out | apply bA_ | apply bN_ | apply bD_ | refine below_set ?_ GE228.out) | exact HB.out)⟩⟩
    case rest =>
      clear HC5
      try clear c1
      try clear p2
      try clear c3
      try clear c4
      try clear c8
      try clear c9
      try clear hcz11_0
      try clear hcz11_1
      try clear hfz11_0
      try clear hfz11_1
      obtain ⟨kq, x22_4, rfl, HA, HJ4, BK228, HB⟩ := hcut
      cases kq with
      | zero => exact absurd HA.out (by simp [cadencelaw3_NamesOf.j0])
      | succ kj4 =>
        have H := HA.out
        clear HA
        simp only [cadencelaw3_NamesOf.j0] at H
        by_cases c13 : x22_4 = true
        · subst c13
          have H1 : (some true) = some r := by rw [if_pos rfl] at H; exact H
          clear H
          have H := H1
          clear H1
          obtain rfl := Option.some.inj H
          go_wp2
          go_ret
          exact ⟨by first | rfl | (simp [errW_none, errW_some] <;> rfl) | (simp [*, errW_none, errW_some] <;> rfl), by repeat (first | (with_reducible first | exact HB.out | apply bA_ | apply bN_ | apply bD_ | refine below_set ?_ GE228.out) | exact HB.out)⟩
        · replace c13 := Bool.eq_false_iff.mpr c13
          subst c13
          have H1 : ((cadencelaw2_Make.f kj4 l0 10 3).bind fun t232 => ((names_Of.f kj4 t232 a1_0 l1_1).bind fun bt235 => ((cadenceref3_Of.f kj4 t232 a1_0 l1_1).bind fun bt241 => ((cadenceref2_Same.f kj4 bt235.1 bt241.1).bind fun t247 => (if t247 = true then ((cadenceref2_Same.f kj4 bt235.2 bt241.2).bind fun t248 => (if t248 = true then (cadencelaw3_NamesOf.j1 kj4 t232 bt235.1 bt235.2 ((wrap64 ((bt235.1.length : Int) + (bt235.2.length : Int))) != (t232.length : Int)) a1_0 l1_1) else (cadencelaw3_NamesOf.j1 kj4 t232 bt235.1 bt235.2 true a1_0 l1_1))) else (cadencelaw3_NamesOf.j1 kj4 t232 bt235.1 bt235.2 true a1_0 l1_1)))))) = some r := by rw [if_neg (show ¬ (false = true) by decide)] at H; exact H
          clear H
          have H := H1
          clear H1
          replace H := Option.bind_eq_some_iff.mp H
          obtain ⟨t232, A140, H⟩ := H
          replace H : ((names_Of.f kj4 t232 a1_0 l1_1).bind fun bt235 => ((cadenceref3_Of.f kj4 t232 a1_0 l1_1).bind fun bt241 => ((cadenceref2_Same.f kj4 bt235.1 bt241.1).bind fun t247 => (if t247 = true then ((cadenceref2_Same.f kj4 bt235.2 bt241.2).bind fun t248 => (if t248 = true then (cadencelaw3_NamesOf.j1 kj4 t232 bt235.1 bt235.2 ((wrap64 ((bt235.1.length : Int) + (bt235.2.length : Int))) != (t232.length : Int)) a1_0 l1_1) else (cadencelaw3_NamesOf.j1 kj4 t232 bt235.1 bt235.2 true a1_0 l1_1))) else (cadencelaw3_NamesOf.j1 kj4 t232 bt235.1 bt235.2 true a1_0 l1_1))))) = some r := H
          have A14 := Aside0.mk A140
          clear A140
          replace H := Option.bind_eq_some_iff.mp H
          obtain ⟨⟨t235, t238⟩, A150, H⟩ := H
          replace H : ((cadenceref3_Of.f kj4 t232 a1_0 l1_1).bind fun bt241 => ((cadenceref2_Same.f kj4 t235 bt241.1).bind fun t247 => (if t247 = true then ((cadenceref2_Same.f kj4 t238 bt241.2).bind fun t248 => (if t248 = true then (cadencelaw3_NamesOf.j1 kj4 t232 t235 t238 ((wrap64 ((t235.length : Int) + (t238.length : Int))) != (t232.length : Int)) a1_0 l1_1) else (cadencelaw3_NamesOf.j1 kj4 t232 t235 t238 true a1_0 l1_1))) else (cadencelaw3_NamesOf.j1 kj4 t232 t235 t238 true a1_0 l1_1)))) = some r := H
          have A15 := Aside0.mk A150
          clear A150
          replace H := Option.bind_eq_some_iff.mp H
          obtain ⟨⟨t241, t244⟩, A160, H⟩ := H
          replace H : ((cadenceref2_Same.f kj4 t235 t241).bind fun t247 => (if t247 = true then ((cadenceref2_Same.f kj4 t238 t244).bind fun t248 => (if t248 = true then (cadencelaw3_NamesOf.j1 kj4 t232 t235 t238 ((wrap64 ((t235.length : Int) + (t238.length : Int))) != (t232.length : Int)) a1_0 l1_1) else (cadencelaw3_NamesOf.j1 kj4 t232 t235 t238 true a1_0 l1_1))) else (cadencelaw3_NamesOf.j1 kj4 t232 t235 t238 true a1_0 l1_1))) = some r := H
          have A16 := Aside0.mk A160
          clear A160
          have HC17 := Aside0.mk H
          clear H
          go_upto_region 8 with (first | ((with_reducible refine gate_callee (f := 11) rfl ?_); refine goesL_ (some 24) rfl rfl Try.func11 (by kernel_rfl) rfl #[.slice A0 l0.length c0, .int .i64 10, .int .i64 3] rfl (by (try simp only [List.map_toArray, List.map_cons, List.map_nil]); first | done | rfl | (simp only [List.length_drop, List.length_take]; rfl)) ?_; (with_reducible refine (cadencelaw2_Make.calls kj4 _ _ l0 10 3 t232 _ ?side1 ?side2 A14.out).mono ?_); (case side1 => repeat (first | exact (Kd.C_below HR0.out HB.out) | (with_reducible refine cA_ ?_ _) | (with_reducible refine cN_ ?_ _) | (with_reducible refine cD_ ?_))); (case side2 => exact HC0.out); rintro e w18 ⟨v233, rfl, ho0, hb⟩; refine ⟨_, rfl, ?_⟩; have n0_ := Aside0.mk (Kd.N_lower (Kd.N_mono (ok' := fun k_ => k_ ≠ gb228) ho0 (fun k_ hk_ => (Kd.freshB (g := gb228) (o := .cells #[.bool a1_0, .slice A1_1 l1_1.length c1_1] 25 (0, 0)) (by (with_reducible repeat (first | refine blk_drewN ?_ _ | refine blk_drew ?_ | refine blk_alloc ?_ _)); exact BK228.out) k_ hk_))) (below_size (by repeat (first | (with_reducible first | exact HB.out | apply bA_ | apply bN_ | apply bD_ | refine below_set ?_ GE228.out) | exact HB.out)))); have n1_ := Aside0.mk (blk_below (g := gb228) (o := .cells #[.bool a1_0, .slice A1_1 l1_1.length c1_1] 25 (0, 0)) (by (with_reducible repeat (first | refine blk_drewN ?_ _ | refine blk_drew ?_ | refine blk_alloc ?_ _)); exact BK228.out) hb); have n2_ := Aside0.mk (below_step (by repeat (first | (with_reducible first | exact HB.out | apply bA_ | apply bN_ | apply bD_ | refine below_set ?_ GE228.out) | exact HB.out)) hb); clear BK228; clear HB; have HO234 := n0_; have BK228 := n1_; have HB := n2_; clear n0_ n1_ n2_; (try clear hb); (try clear hb2); (try clear hk); (try clear hi); (try clear ho0); have hcz19_0 : w18.cell? ⟨gb228, 0, none⟩ = some (.bool a1_0) := (blk_cell BK228.out 0).trans rfl; have hcz19_1 : w18.cell? ⟨gb228, 1, none⟩ = some (.slice A1_1 l1_1.length c1_1) := (blk_cell BK228.out 1).trans rfl; have hfz19_0 := blk_frozen BK228.out 0; have hfz19_1 := blk_frozen BK228.out 1; obtain ⟨Ao20, co20, eo20⟩ := Kd.N_slice HO234.out; subst eo20) | ((with_reducible refine gate_callee (f := 12) rfl ?_); refine goesL_ (some 28) rfl rfl Try.func12 (by kernel_rfl) rfl #[.slice Ao20 t232.length co20, .agg #[.bool a1_0, .slice A1_1 l1_1.length c1_1]] rfl (by (try simp only [List.map_toArray, List.map_cons, List.map_nil]); first | done | rfl | (simp only [List.length_drop, List.length_take]; rfl)) ?_; (with_reducible refine (names_Of.calls kj4 _ _ t232 a1_0 _ _ l1_1 t235 t238 _ ?side1 ?side2 ?side3 ?side4 A15.out).mono ?_); (case side1 => repeat (first | exact (Kd.N_reads' HO234.out).2.2 | (with_reducible refine cA_ ?_ _) | (with_reducible refine cN_ ?_ _) | (with_reducible refine cD_ ?_))); (case side2 => exact (Kd.N_reads' HO234.out).2.1); (case side3 => repeat (first | exact (Kd.C_below HR1_1.out HB.out) | (with_reducible refine cA_ ?_ _) | (with_reducible refine cN_ ?_ _) | (with_reducible refine cD_ ?_))); (case side4 => exact HC1_1.out); rintro e w21 ⟨v236, v239, rfl, ho0, ho1, hb⟩; refine ⟨_, rfl, ?_⟩; have n0_ := Aside0.mk (Kd.N_mono (Kd.N_told (Kd.N_told (Kd.N_old (by (with_reducible repeat (first | apply nA_ | apply nN_ | apply nD_)); exact HO234.out) hb) (Kd.N_base ho0)) (Kd.N_base ho1)) (fun _ h_ => h_.1)); have n1_ := Aside0.mk (Kd.N_lower (Kd.N_mono (ok' := fun k_ => some k_ ≠ (v239 : Value).ownBlock ∧ some k_ ≠ (.slice Ao20 t232.length co20 : Value).ownBlock ∧ k_ ≠ gb228) ho0 (fun k_ hk_ => ⟨hk_.2, (Kd.fresh' (Kd.N_lt (by (with_reducible repeat (first | apply nA_ | apply nN_ | apply nD_)); exact HO234.out)) k_ hk_.1), (Kd.freshB (g := gb228) (o := .cells #[.bool a1_0, .slice A1_1 l1_1.length c1_1] 25 (0, 0)) (by (with_reducible repeat (first | refine blk_drewN ?_ _ | refine blk_drew ?_ | refine blk_alloc ?_ _)); exact BK228.out) k_ hk_.1)⟩)) (below_size (by repeat (first | (with_reducible first | exact HB.out | apply bA_ | apply bN_ | apply bD_ | refine below_set ?_ GE228.out) | exact HB.out)))); have n2_ := Aside0.mk (Kd.N_lower (Kd.N_mono (ok' := fun k_ => some k_ ≠ (v236 : Value).ownBlock ∧ some k_ ≠ (.slice Ao20 t232.length co20 : Value).ownBlock ∧ k_ ≠ gb228) ho1 (fun k_ hk_ => ⟨hk_.2, (Kd.fresh' (Kd.N_lt (by (with_reducible repeat (first | apply nA_ | apply nN_ | apply nD_)); exact HO234.out)) k_ hk_.1), (Kd.freshB (g := gb228) (o := .cells #[.bool a1_0, .slice A1_1 l1_1.length c1_1] 25 (0, 0)) (by (with_reducible repeat (first | refine blk_drewN ?_ _ | refine blk_drew ?_ | refine blk_alloc ?_ _)); exact BK228.out) k_ hk_.1)⟩)) (below_size (by repeat (first | (with_reducible first | exact HB.out | apply bA_ | apply bN_ | apply bD_ | refine below_set ?_ GE228.out) | exact HB.out)))); have n3_ := Aside0.mk (blk_below (g := gb228) (o := .cells #[.bool a1_0, .slice A1_1 l1_1.length c1_1] 25 (0, 0)) (by (with_reducible repeat (first | refine blk_drewN ?_ _ | refine blk_drew ?_ | refine blk_alloc ?_ _)); exact BK228.out) hb); have n4_ := Aside0.mk (below_step (by repeat (first | (with_reducible first | exact HB.out | apply bA_ | apply bN_ | apply bD_ | refine below_set ?_ GE228.out) | exact HB.out)) hb); clear HO234; clear BK228; clear HB; have HO234 := n0_; have HO237 := n1_; have HO240 := n2_; have BK228 := n3_; have HB := n4_; clear n0_ n1_ n2_ n3_ n4_; (try clear hb); (try clear hb2); (try clear hk); (try clear hi); (try clear ho0); (try clear ho1); have hcz22_0 : w21.cell? ⟨gb228, 0, none⟩ = some (.bool a1_0) := (blk_cell BK228.out 0).trans rfl; have hcz22_1 : w21.cell? ⟨gb228, 1, none⟩ = some (.slice A1_1 l1_1.length c1_1) := (blk_cell BK228.out 1).trans rfl; have hfz22_0 := blk_frozen BK228.out 0; have hfz22_1 := blk_frozen BK228.out 1) | ((with_reducible refine gate_callee (f := 13) rfl ?_); refine goesL_ (some 34) rfl rfl Try.func13 (by kernel_rfl) rfl #[.slice Ao20 t232.length co20, .agg #[.bool a1_0, .slice A1_1 l1_1.length c1_1]] rfl (by (try simp only [List.map_toArray, List.map_cons, List.map_nil]); first | done | rfl | (simp only [List.length_drop, List.length_take]; rfl)) ?_; (with_reducible refine (cadenceref3_Of.calls kj4 (fun k_ => ((k_ ≠ gb228 ∧ some k_ ≠ (v236 : Value).ownBlock) ∧ some k_ ≠ (v239 : Value).ownBlock)) _ _ t232 a1_0 _ _ l1_1 t241 t244 _ ?side1 ?side2 ?side3 A16.out).mono ?_); (case side1 => exact Kd.N_V (HO234.out)); (case side2 => repeat (first | exact (Kd.C_below HR1_1.out HB.out) | (with_reducible refine cA_ ?_ _) | (with_reducible refine cN_ ?_ _) | (with_reducible refine cD_ ?_))); (case side3 => exact HC1_1.out); rintro e w23 ⟨v242, v245, rfl, ho0, ho1, hb⟩; refine ⟨_, rfl, ?_⟩; have n0_ := Aside0.mk (Kd.N_mono (Kd.N_told (Kd.N_told (Kd.N_old (by (with_reducible repeat (first | apply nA_ | apply nN_ | apply nD_)); exact HO234.out) hb) (Kd.N_base ho0)) (Kd.N_base ho1)) (fun _ h_ => h_.1)); have n1_ := Aside0.mk (Kd.N_mono (Kd.N_told (Kd.N_told (Kd.N_old (by (with_reducible repeat (first | apply nA_ | apply nN_ | apply nD_)); exact HO237.out) hb) (Kd.N_base ho0)) (Kd.N_base ho1)) (fun _ h_ => h_.1)); have n2_ := Aside0.mk (Kd.N_mono (Kd.N_told (Kd.N_told (Kd.N_old (by (with_reducible repeat (first | apply nA_ | apply nN_ | apply nD_)); exact HO240.out) hb) (Kd.N_base ho0)) (Kd.N_base ho1)) (fun _ h_ => h_.1)); have n3_ := Aside0.mk (Kd.N_lower (Kd.N_mono (ok' := fun k_ => some k_ ≠ (v245 : Value).ownBlock ∧ some k_ ≠ (v236 : Value).ownBlock ∧ some k_ ≠ (v239 : Value).ownBlock ∧ k_ ≠ gb228) ho0 (fun k_ hk_ => ⟨hk_.2, Or.elim hk_.1 (fun hs_ => hs_.1.2) (fun hn_ => (Kd.fresh' (Kd.N_lt (by (with_reducible repeat (first | apply nA_ | apply nN_ | apply nD_)); exact HO237.out)) k_ hn_)), Or.elim hk_.1 (fun hs_ => hs_.2) (fun hn_ => (Kd.fresh' (Kd.N_lt (by (with_reducible repeat (first | apply nA_ | apply nN_ | apply nD_)); exact HO240.out)) k_ hn_)), Or.elim hk_.1 (fun hs_ => hs_.1.1) (fun hn_ => (Kd.freshB (g := gb228) (o := .cells #[.bool a1_0, .slice A1_1 l1_1.length c1_1] 25 (0, 0)) (by (with_reducible repeat (first | refine blk_drewN ?_ _ | refine blk_drew ?_ | refine blk_alloc ?_ _)); exact BK228.out) k_ hn_))⟩)) (below_size (by repeat (first | (with_reducible first | exact HB.out | apply bA_ | apply bN_ | apply bD_ | refine below_set ?_ GE228.out) | exact HB.out)))); have n4_ := Aside0.mk (Kd.N_lower (Kd.N_mono (ok' := fun k_ => some k_ ≠ (v242 : Value).ownBlock ∧ some k_ ≠ (v236 : Value).ownBlock ∧ some k_ ≠ (v239 : Value).ownBlock ∧ k_ ≠ gb228) ho1 (fun k_ hk_ => ⟨hk_.2, Or.elim hk_.1 (fun hs_ => hs_.1.2) (fun hn_ => (Kd.fresh' (Kd.N_lt (by (with_reducible repeat (first | apply nA_ | apply nN_ | apply nD_)); exact HO237.out)) k_ hn_)), Or.elim hk_.1 (fun hs_ => hs_.2) (fun hn_ => (Kd.fresh' (Kd.N_lt (by (with_reducible repeat (first | apply nA_ | apply nN_ | apply nD_)); exact HO240.out)) k_ hn_)), Or.elim hk_.1 (fun hs_ => hs_.1.1) (fun hn_ => (Kd.freshB (g := gb228) (o := .cells #[.bool a1_0, .slice A1_1 l1_1.length c1_1] 25 (0, 0)) (by (with_reducible repeat (first | refine blk_drewN ?_ _ | refine blk_drew ?_ | refine blk_alloc ?_ _)); exact BK228.out) k_ hn_))⟩)) (below_size (by repeat (first | (with_reducible first | exact HB.out | apply bA_ | apply bN_ | apply bD_ | refine below_set ?_ GE228.out) | exact HB.out)))); have n5_ := Aside0.mk (blk_below (g := gb228) (o := .cells #[.bool a1_0, .slice A1_1 l1_1.length c1_1] 25 (0, 0)) (by (with_reducible repeat (first | refine blk_drewN ?_ _ | refine blk_drew ?_ | refine blk_alloc ?_ _)); exact BK228.out) hb); have n6_ := Aside0.mk (below_step (by repeat (first | (with_reducible first | exact HB.out | apply bA_ | apply bN_ | apply bD_ | refine below_set ?_ GE228.out) | exact HB.out)) hb); clear HO234; clear HO237; clear HO240; clear BK228; clear HB; have HO234 := n0_; have HO237 := n1_; have HO240 := n2_; have HO243 := n3_; have HO246 := n4_; have BK228 := n5_; have HB := n6_; clear n0_ n1_ n2_ n3_ n4_ n5_ n6_; (try clear hb); (try clear hb2); (try clear hk); (try clear hi); (try clear ho0); (try clear ho1)))
          (try simp only [Act.put, List.setIfInBounds_toArray, List.set_cons_zero, List.set_cons_succ])
          go_cut [56] (fun v56 wc => ∃ (kq : Nat) (x56_16 : Bool), v56 = .bool x56_16 ∧ Aside0 (cadencelaw3_NamesOf.j1 kq t232 t235 t238 x56_16 a1_0 l1_1 = some r) ∧ Aside0 (kq ≤ kj4) ∧ Aside0 (Kd.N k37 37 wc w.heap.size (fun k_ => some k_ ≠ (v236 : Value).ownBlock ∧ some k_ ≠ (v239 : Value).ownBlock ∧ k_ ≠ gb228) (.slice Ao20 t232.length co20) t232) ∧ Aside0 (Kd.N k37 37 wc w.heap.size (fun k_ => some k_ ≠ ((.slice Ao20 t232.length co20) : Value).ownBlock ∧ some k_ ≠ (v239 : Value).ownBlock ∧ k_ ≠ gb228) v236 t235) ∧ Aside0 (Kd.N k37 37 wc w.heap.size (fun k_ => some k_ ≠ ((.slice Ao20 t232.length co20) : Value).ownBlock ∧ some k_ ≠ (v236 : Value).ownBlock ∧ k_ ≠ gb228) v239 t238) ∧ Aside0 (wc.heap[gb228]? = some (.cells #[.bool a1_0, (.slice A1_1 l1_1.length c1_1)] 25 (0, 0))) ∧ Aside0 (Below w.heap.size w wc))
          case first =>
            have H := HC17.out
            clear HC17
            replace H := Option.bind_eq_some_iff.mp H
            obtain ⟨t247, A240, H⟩ := H
            replace H : (if t247 = true then ((cadenceref2_Same.f kj4 t238 t244).bind fun t248 => (if t248 = true then (cadencelaw3_NamesOf.j1 kj4 t232 t235 t238 ((wrap64 ((t235.length : Int) + (t238.length : Int))) != (t232.length : Int)) a1_0 l1_1) else (cadencelaw3_NamesOf.j1 kj4 t232 t235 t238 true a1_0 l1_1))) else (cadencelaw3_NamesOf.j1 kj4 t232 t235 t238 true a1_0 l1_1)) = some r := H
            have A24 := Aside0.mk A240
            clear A240
            by_cases c25 : t247 = true
            · subst c25
              have H1 : ((cadenceref2_Same.f kj4 t238 t244).bind fun t248 => (if t248 = true then (cadencelaw3_NamesOf.j1 kj4 t232 t235 t238 ((wrap64 ((t235.length : Int) + (t238.length : Int))) != (t232.length : Int)) a1_0 l1_1) else (cadencelaw3_NamesOf.j1 kj4 t232 t235 t238 true a1_0 l1_1))) = some r := by rw [if_pos rfl] at H; exact H
              clear H
              have H := H1
              clear H1
              replace H := Option.bind_eq_some_iff.mp H
              obtain ⟨t248, A260, H⟩ := H
              replace H : (if t248 = true then (cadencelaw3_NamesOf.j1 kj4 t232 t235 t238 ((wrap64 ((t235.length : Int) + (t238.length : Int))) != (t232.length : Int)) a1_0 l1_1) else (cadencelaw3_NamesOf.j1 kj4 t232 t235 t238 true a1_0 l1_1)) = some r := H
              have A26 := Aside0.mk A260
              clear A260
              by_cases c27 : t248 = true
              · subst c27
                have H1 : (cadencelaw3_NamesOf.j1 kj4 t232 t235 t238 ((wrap64 ((t235.length : Int) + (t238.length : Int))) != (t232.length : Int)) a1_0 l1_1) = some r := by rw [if_pos rfl] at H; exact H
                clear H
                have H := H1
                clear H1
                have H' := Aside0.mk H
                clear H
                obtain ⟨Ao28, co28, eo28⟩ := Kd.N_slice HO237.out
                subst eo28
                obtain ⟨Ao29, co29, eo29⟩ := Kd.N_slice HO243.out
                subst eo29
                go_wp2_with (first | ((with_reducible refine gate_callee (f := 14) rfl ?_); refine goesL_ (some 39) rfl rfl Try.func14 (by kernel_rfl) rfl #[.slice Ao28 t235.length co28, .slice Ao29 t241.length co29] rfl (by (try simp only [List.map_toArray, List.map_cons, List.map_nil]); first | done | rfl | (simp only [List.length_drop, List.length_take]; rfl)) ?_; (with_reducible refine (cadenceref2_Same.calls kj4 _ _ t235 _ _ t241 true _ ?side1 ?side2 ?side3 ?side4 A24.out).mono ?_); (case side1 => repeat (first | exact (Kd.N_reads' HO237.out).2.2 | (with_reducible refine cA_ ?_ _) | (with_reducible refine cN_ ?_ _) | (with_reducible refine cD_ ?_))); (case side2 => exact (Kd.N_reads' HO237.out).2.1); (case side3 => repeat (first | exact (Kd.N_reads' HO243.out).2.2 | (with_reducible refine cA_ ?_ _) | (with_reducible refine cN_ ?_ _) | (with_reducible refine cD_ ?_))); (case side4 => exact (Kd.N_reads' HO243.out).2.1); rintro e w30 ⟨rfl, hb⟩; refine ⟨_, rfl, ?_⟩; have n0_ := Aside0.mk (Kd.N_below (by (with_reducible repeat (first | apply nA_ | apply nN_ | apply nD_)); exact HO234.out) hb); have n1_ := Aside0.mk (Kd.N_below (by (with_reducible repeat (first | apply nA_ | apply nN_ | apply nD_)); exact HO237.out) hb); have n2_ := Aside0.mk (Kd.N_below (by (with_reducible repeat (first | apply nA_ | apply nN_ | apply nD_)); exact HO240.out) hb); have n3_ := Aside0.mk (Kd.N_below (by (with_reducible repeat (first | apply nA_ | apply nN_ | apply nD_)); exact HO243.out) hb); have n4_ := Aside0.mk (Kd.N_below (by (with_reducible repeat (first | apply nA_ | apply nN_ | apply nD_)); exact HO246.out) hb); have n5_ := Aside0.mk (blk_below (g := gb228) (o := .cells #[.bool a1_0, .slice A1_1 l1_1.length c1_1] 25 (0, 0)) (by (with_reducible repeat (first | refine blk_drewN ?_ _ | refine blk_drew ?_ | refine blk_alloc ?_ _)); exact BK228.out) hb); have n6_ := Aside0.mk (below_step (by repeat (first | (with_reducible first | exact HB.out | apply bA_ | apply bN_ | apply bD_ | refine below_set ?_ GE228.out) | exact HB.out)) hb); clear HO234; clear HO237; clear HO240; clear HO243; clear HO246; clear BK228; clear HB; have HO234 := n0_; have HO237 := n1_; have HO240 := n2_; have HO243 := n3_; have HO246 := n4_; have BK228 := n5_; have HB := n6_; clear n0_ n1_ n2_ n3_ n4_ n5_ n6_; (try clear hb); (try clear hb2); (try clear hk); (try clear hi); obtain ⟨Ao31, co31, eo31⟩ := Kd.N_slice HO240.out; subst eo31; obtain ⟨Ao32, co32, eo32⟩ := Kd.N_slice HO246.out; subst eo32) | (go_at_call 14; (with_reducible refine (cadenceref2_Same.calls kj4 _ _ t238 _ _ t244 true _ ?side1 ?side2 ?side3 ?side4 A26.out).mono ?_); (case side1 => repeat (first | exact (Kd.N_reads' HO240.out).2.2 | (with_reducible refine cA_ ?_ _) | (with_reducible refine cN_ ?_ _) | (with_reducible refine cD_ ?_))); (case side2 => exact (Kd.N_reads' HO240.out).2.1); (case side3 => repeat (first | exact (Kd.N_reads' HO246.out).2.2 | (with_reducible refine cA_ ?_ _) | (with_reducible refine cN_ ?_ _) | (with_reducible refine cD_ ?_))); (case side4 => exact (Kd.N_reads' HO246.out).2.1); rintro e w33 ⟨rfl, hb⟩; have n0_ := Aside0.mk (Kd.N_below (by (with_reducible repeat (first | apply nA_ | apply nN_ | apply nD_)); exact HO234.out) hb); have n1_ := Aside0.mk (Kd.N_below (by (with_reducible repeat (first | apply nA_ | apply nN_ | apply nD_)); exact HO237.out) hb); have n2_ := Aside0.mk (Kd.N_below (by (with_reducible repeat (first | apply nA_ | apply nN_ | apply nD_)); exact HO240.out) hb); have n3_ := Aside0.mk (Kd.N_below (by (with_reducible repeat (first | apply nA_ | apply nN_ | apply nD_)); exact HO243.out) hb); have n4_ := Aside0.mk (Kd.N_below (by (with_reducible repeat (first | apply nA_ | apply nN_ | apply nD_)); exact HO246.out) hb); have n5_ := Aside0.mk (blk_below (g := gb228) (o := .cells #[.bool a1_0, .slice A1_1 l1_1.length c1_1] 25 (0, 0)) (by (with_reducible repeat (first | refine blk_drewN ?_ _ | refine blk_drew ?_ | refine blk_alloc ?_ _)); exact BK228.out) hb); have n6_ := Aside0.mk (below_step (by repeat (first | (with_reducible first | exact HB.out | apply bA_ | apply bN_ | apply bD_ | refine below_set ?_ GE228.out) | exact HB.out)) hb); clear HO234; clear HO237; clear HO240; clear HO243; clear HO246; clear BK228; clear HB; have HO234 := n0_; have HO237 := n1_; have HO240 := n2_; have HO243 := n3_; have HO246 := n4_; have BK228 := n5_; have HB := n6_; clear n0_ n1_ n2_ n3_ n4_ n5_ n6_; (try clear hb); (try clear hb2); (try clear hk); (try clear hi)))
                go_meet
                case rel => exact ⟨_, (((wrap64 ((t235.length : Int) + (t238.length : Int))) != (t232.length : Int))), (by first | rfl | (simp; done) | (simp [*]; done)), H', ⟨by have := HJ4.out; first | omega | exact Nat.le_refl _⟩, ⟨by (with_reducible repeat (first | apply nA_ | apply nN_ | apply nD_)); exact Kd.N_mono HO234.out (fun _ hk => ⟨hk.1.1.1.2, ⟨hk.1.1.2, hk.1.1.1.1⟩⟩)⟩, ⟨by (with_reducible repeat (first | apply nA_ | apply nN_ | apply nD_)); exact Kd.N_mono HO237.out (fun _ hk => ⟨hk.1.1.2.1, ⟨hk.1.1.1, hk.1.1.2.2⟩⟩)⟩, ⟨by (with_reducible repeat (first | apply nA_ | apply nN_ | apply nD_)); exact Kd.N_mono HO240.out (fun _ hk => ⟨hk.1.1.2.1, ⟨hk.1.1.1, hk.1.1.2.2⟩⟩)⟩, ⟨by (with_reducible repeat (first | refine blk_drewN ?_ _ | refine blk_drew ?_ | refine blk_alloc ?_ _)); exact BK228.out⟩, ⟨by repeat (first | (with_reducible first | exact HB.out | apply bA_ | apply bN_ | apply bD_ | refine below_set ?_ GE228.out) | exact HB.out)⟩⟩
              · replace c27 := Bool.eq_false_iff.mpr c27
                subst c27
                have H1 : (cadencelaw3_NamesOf.j1 kj4 t232 t235 t238 true a1_0 l1_1) = some r := by rw [if_neg (show ¬ (false = true) by decide)] at H; exact H
                clear H
                have H := H1
                clear H1
                have H' := Aside0.mk H
                clear H
                obtain ⟨Ao34, co34, eo34⟩ := Kd.N_slice HO237.out
                subst eo34
                obtain ⟨Ao35, co35, eo35⟩ := Kd.N_slice HO243.out
                subst eo35
                go_wp2_with (first | ((with_reducible refine gate_callee (f := 14) rfl ?_); refine goesL_ (some 39) rfl rfl Try.func14 (by kernel_rfl) rfl #[.slice Ao34 t235.length co34, .slice Ao35 t241.length co35] rfl (by (try simp only [List.map_toArray, List.map_cons, List.map_nil]); first | done | rfl | (simp only [List.length_drop, List.length_take]; rfl)) ?_; (with_reducible refine (cadenceref2_Same.calls kj4 _ _ t235 _ _ t241 true _ ?side1 ?side2 ?side3 ?side4 A24.out).mono ?_); (case side1 => repeat (first | exact (Kd.N_reads' HO237.out).2.2 | (with_reducible refine cA_ ?_ _) | (with_reducible refine cN_ ?_ _) | (with_reducible refine cD_ ?_))); (case side2 => exact (Kd.N_reads' HO237.out).2.1); (case side3 => repeat (first | exact (Kd.N_reads' HO243.out).2.2 | (with_reducible refine cA_ ?_ _) | (with_reducible refine cN_ ?_ _) | (with_reducible refine cD_ ?_))); (case side4 => exact (Kd.N_reads' HO243.out).2.1); rintro e w36 ⟨rfl, hb⟩; refine ⟨_, rfl, ?_⟩; have n0_ := Aside0.mk (Kd.N_below (by (with_reducible repeat (first | apply nA_ | apply nN_ | apply nD_)); exact HO234.out) hb); have n1_ := Aside0.mk (Kd.N_below (by (with_reducible repeat (first | apply nA_ | apply nN_ | apply nD_)); exact HO237.out) hb); have n2_ := Aside0.mk (Kd.N_below (by (with_reducible repeat (first | apply nA_ | apply nN_ | apply nD_)); exact HO240.out) hb); have n3_ := Aside0.mk (Kd.N_below (by (with_reducible repeat (first | apply nA_ | apply nN_ | apply nD_)); exact HO243.out) hb); have n4_ := Aside0.mk (Kd.N_below (by (with_reducible repeat (first | apply nA_ | apply nN_ | apply nD_)); exact HO246.out) hb); have n5_ := Aside0.mk (blk_below (g := gb228) (o := .cells #[.bool a1_0, .slice A1_1 l1_1.length c1_1] 25 (0, 0)) (by (with_reducible repeat (first | refine blk_drewN ?_ _ | refine blk_drew ?_ | refine blk_alloc ?_ _)); exact BK228.out) hb); have n6_ := Aside0.mk (below_step (by repeat (first | (with_reducible first | exact HB.out | apply bA_ | apply bN_ | apply bD_ | refine below_set ?_ GE228.out) | exact HB.out)) hb); clear HO234; clear HO237; clear HO240; clear HO243; clear HO246; clear BK228; clear HB; have HO234 := n0_; have HO237 := n1_; have HO240 := n2_; have HO243 := n3_; have HO246 := n4_; have BK228 := n5_; have HB := n6_; clear n0_ n1_ n2_ n3_ n4_ n5_ n6_; (try clear hb); (try clear hb2); (try clear hk); (try clear hi); obtain ⟨Ao37, co37, eo37⟩ := Kd.N_slice HO240.out; subst eo37; obtain ⟨Ao38, co38, eo38⟩ := Kd.N_slice HO246.out; subst eo38) | (go_at_call 14; (with_reducible refine (cadenceref2_Same.calls kj4 _ _ t238 _ _ t244 false _ ?side1 ?side2 ?side3 ?side4 A26.out).mono ?_); (case side1 => repeat (first | exact (Kd.N_reads' HO240.out).2.2 | (with_reducible refine cA_ ?_ _) | (with_reducible refine cN_ ?_ _) | (with_reducible refine cD_ ?_))); (case side2 => exact (Kd.N_reads' HO240.out).2.1); (case side3 => repeat (first | exact (Kd.N_reads' HO246.out).2.2 | (with_reducible refine cA_ ?_ _) | (with_reducible refine cN_ ?_ _) | (with_reducible refine cD_ ?_))); (case side4 => exact (Kd.N_reads' HO246.out).2.1); rintro e w39 ⟨rfl, hb⟩; have n0_ := Aside0.mk (Kd.N_below (by (with_reducible repeat (first | apply nA_ | apply nN_ | apply nD_)); exact HO234.out) hb); have n1_ := Aside0.mk (Kd.N_below (by (with_reducible repeat (first | apply nA_ | apply nN_ | apply nD_)); exact HO237.out) hb); have n2_ := Aside0.mk (Kd.N_below (by (with_reducible repeat (first | apply nA_ | apply nN_ | apply nD_)); exact HO240.out) hb); have n3_ := Aside0.mk (Kd.N_below (by (with_reducible repeat (first | apply nA_ | apply nN_ | apply nD_)); exact HO243.out) hb); have n4_ := Aside0.mk (Kd.N_below (by (with_reducible repeat (first | apply nA_ | apply nN_ | apply nD_)); exact HO246.out) hb); have n5_ := Aside0.mk (blk_below (g := gb228) (o := .cells #[.bool a1_0, .slice A1_1 l1_1.length c1_1] 25 (0, 0)) (by (with_reducible repeat (first | refine blk_drewN ?_ _ | refine blk_drew ?_ | refine blk_alloc ?_ _)); exact BK228.out) hb); have n6_ := Aside0.mk (below_step (by repeat (first | (with_reducible first | exact HB.out | apply bA_ | apply bN_ | apply bD_ | refine below_set ?_ GE228.out) | exact HB.out)) hb); clear HO234; clear HO237; clear HO240; clear HO243; clear HO246; clear BK228; clear HB; have HO234 := n0_; have HO237 := n1_; have HO240 := n2_; have HO243 := n3_; have HO246 := n4_; have BK228 := n5_; have HB := n6_; clear n0_ n1_ n2_ n3_ n4_ n5_ n6_; (try clear hb); (try clear hb2); (try clear hk); (try clear hi)))
                go_meet
                case rel => exact ⟨_, (true), (by first | rfl | (simp; done) | (simp [*]; done)), H', ⟨by have := HJ4.out; first | omega | exact Nat.le_refl _⟩, ⟨by (with_reducible repeat (first | apply nA_ | apply nN_ | apply nD_)); exact Kd.N_mono HO234.out (fun _ hk => ⟨hk.1.1.1.2, ⟨hk.1.1.2, hk.1.1.1.1⟩⟩)⟩, ⟨by (with_reducible repeat (first | apply nA_ | apply nN_ | apply nD_)); exact Kd.N_mono HO237.out (fun _ hk => ⟨hk.1.1.2.1, ⟨hk.1.1.1, hk.1.1.2.2⟩⟩)⟩, ⟨by (with_reducible repeat (first | apply nA_ | apply nN_ | apply nD_)); exact Kd.N_mono HO240.out (fun _ hk => ⟨hk.1.1.2.1, ⟨hk.1.1.1, hk.1.1.2.2⟩⟩)⟩, ⟨by (with_reducible repeat (first | refine blk_drewN ?_ _ | refine blk_drew ?_ | refine blk_alloc ?_ _)); exact BK228.out⟩, ⟨by repeat (first | (with_reducible first | exact HB.out | apply bA_ | apply bN_ | apply bD_ | refine below_set ?_ GE228.out) | exact HB.out)⟩⟩
            · replace c25 := Bool.eq_false_iff.mpr c25
              subst c25
              have H1 : (cadencelaw3_NamesOf.j1 kj4 t232 t235 t238 true a1_0 l1_1) = some r := by rw [if_neg (show ¬ (false = true) by decide)] at H; exact H
              clear H
              have H := H1
              clear H1
              have H' := Aside0.mk H
              clear H
              obtain ⟨Ao40, co40, eo40⟩ := Kd.N_slice HO237.out
              subst eo40
              obtain ⟨Ao41, co41, eo41⟩ := Kd.N_slice HO243.out
              subst eo41
              go_wp2_with (first | ((with_reducible refine gate_callee (f := 14) rfl ?_); refine goesL_ (some 39) rfl rfl Try.func14 (by kernel_rfl) rfl #[.slice Ao40 t235.length co40, .slice Ao41 t241.length co41] rfl (by (try simp only [List.map_toArray, List.map_cons, List.map_nil]); first | done | rfl | (simp only [List.length_drop, List.length_take]; rfl)) ?_; (with_reducible refine (cadenceref2_Same.calls kj4 _ _ t235 _ _ t241 false _ ?side1 ?side2 ?side3 ?side4 A24.out).mono ?_); (case side1 => repeat (first | exact (Kd.N_reads' HO237.out).2.2 | (with_reducible refine cA_ ?_ _) | (with_reducible refine cN_ ?_ _) | (with_reducible refine cD_ ?_))); (case side2 => exact (Kd.N_reads' HO237.out).2.1); (case side3 => repeat (first | exact (Kd.N_reads' HO243.out).2.2 | (with_reducible refine cA_ ?_ _) | (with_reducible refine cN_ ?_ _) | (with_reducible refine cD_ ?_))); (case side4 => exact (Kd.N_reads' HO243.out).2.1); rintro e w42 ⟨rfl, hb⟩; refine ⟨_, rfl, ?_⟩; have n0_ := Aside0.mk (Kd.N_below (by (with_reducible repeat (first | apply nA_ | apply nN_ | apply nD_)); exact HO234.out) hb); have n1_ := Aside0.mk (Kd.N_below (by (with_reducible repeat (first | apply nA_ | apply nN_ | apply nD_)); exact HO237.out) hb); have n2_ := Aside0.mk (Kd.N_below (by (with_reducible repeat (first | apply nA_ | apply nN_ | apply nD_)); exact HO240.out) hb); have n3_ := Aside0.mk (Kd.N_below (by (with_reducible repeat (first | apply nA_ | apply nN_ | apply nD_)); exact HO243.out) hb); have n4_ := Aside0.mk (Kd.N_below (by (with_reducible repeat (first | apply nA_ | apply nN_ | apply nD_)); exact HO246.out) hb); have n5_ := Aside0.mk (blk_below (g := gb228) (o := .cells #[.bool a1_0, .slice A1_1 l1_1.length c1_1] 25 (0, 0)) (by (with_reducible repeat (first | refine blk_drewN ?_ _ | refine blk_drew ?_ | refine blk_alloc ?_ _)); exact BK228.out) hb); have n6_ := Aside0.mk (below_step (by repeat (first | (with_reducible first | exact HB.out | apply bA_ | apply bN_ | apply bD_ | refine below_set ?_ GE228.out) | exact HB.out)) hb); clear HO234; clear HO237; clear HO240; clear HO243; clear HO246; clear BK228; clear HB; have HO234 := n0_; have HO237 := n1_; have HO240 := n2_; have HO243 := n3_; have HO246 := n4_; have BK228 := n5_; have HB := n6_; clear n0_ n1_ n2_ n3_ n4_ n5_ n6_; (try clear hb); (try clear hb2); (try clear hk); (try clear hi)))
              go_meet
              case rel => exact ⟨_, (true), (by first | rfl | (simp; done) | (simp [*]; done)), H', ⟨by have := HJ4.out; first | omega | exact Nat.le_refl _⟩, ⟨by (with_reducible repeat (first | apply nA_ | apply nN_ | apply nD_)); exact Kd.N_mono HO234.out (fun _ hk => ⟨hk.1.1.1.2, ⟨hk.1.1.2, hk.1.1.1.1⟩⟩)⟩, ⟨by (with_reducible repeat (first | apply nA_ | apply nN_ | apply nD_)); exact Kd.N_mono HO237.out (fun _ hk => ⟨hk.1.1.2.1, ⟨hk.1.1.1, hk.1.1.2.2⟩⟩)⟩, ⟨by (with_reducible repeat (first | apply nA_ | apply nN_ | apply nD_)); exact Kd.N_mono HO240.out (fun _ hk => ⟨hk.1.1.2.1, ⟨hk.1.1.1, hk.1.1.2.2⟩⟩)⟩, ⟨by (with_reducible repeat (first | refine blk_drewN ?_ _ | refine blk_drew ?_ | refine blk_alloc ?_ _)); exact BK228.out⟩, ⟨by repeat (first | (with_reducible first | exact HB.out | apply bA_ | apply bN_ | apply bD_ | refine below_set ?_ GE228.out) | exact HB.out)⟩⟩
          case rest =>
            clear HC17
            try clear c1
            try clear c2
            try clear p2
            try clear c3
            try clear c4
            try clear p6
            try clear c8
            try clear c9
            try clear c11
            try clear c12
            try clear c13
            try clear c14
            try clear c25
            try clear c27
            try clear hcz11_0
            try clear hcz11_1
            try clear hcz19_0
            try clear hcz19_1
            try clear hcz22_0
            try clear hcz22_1
            try clear hfz11_0
            try clear hfz11_1
            try clear hfz19_0
            try clear hfz19_1
            try clear hfz22_0
            try clear hfz22_1
            try clear p2
            obtain ⟨kq, x56_16, rfl, HA, HJ16, HO_5, HO_6, HO_7, BK228, HB⟩ := hcut
            cases kq with
            | zero => exact absurd HA.out (by simp [cadencelaw3_NamesOf.j1])
            | succ kj16 =>
              have H := HA.out
              clear HA
              simp only [cadencelaw3_NamesOf.j1] at H
              by_cases c43 : x56_16 = true
              · subst c43
                have H1 : (some false) = some r := by rw [if_pos rfl] at H; exact H
                clear H
                have H := H1
                clear H1
                obtain rfl := Option.some.inj H
                go_wp2
                go_ret
                exact ⟨by first | rfl | (simp [errW_none, errW_some] <;> rfl) | (simp [*, errW_none, errW_some] <;> rfl), by repeat (first | (with_reducible first | exact HB.out | apply bA_ | apply bN_ | apply bD_ | refine below_set ?_ GE228.out) | exact HB.out)⟩
              · replace c43 := Bool.eq_false_iff.mpr c43
                subst c43
                have H1 : (cadencelaw3_NamesOf.l0 kj16 t232 t235 t238 0 a1_0 l1_1) = some r := by rw [if_neg (show ¬ (false = true) by decide)] at H; exact H
                clear H
                have H := H1
                clear H1
                have H' := Aside0.mk H
                clear H
                go_wp2
                go_loopg [10] kj16 (fun kq v10 w' => ∃ (x10_3 : Int), v10 = .int .i64 x10_3 ∧ Aside0 (cadencelaw3_NamesOf.l0 kq t232 t235 t238 x10_3 a1_0 l1_1 = some r) ∧ Aside0 (kq ≤ kj16) ∧ Aside0 (Kd.N k37 37 w' w.heap.size (fun k_ => some k_ ≠ (v236 : Value).ownBlock ∧ some k_ ≠ (v239 : Value).ownBlock ∧ k_ ≠ gb228) (.slice Ao20 t232.length co20) t232) ∧ Aside0 (Kd.N k37 37 w' w.heap.size (fun k_ => some k_ ≠ ((.slice Ao20 t232.length co20) : Value).ownBlock ∧ some k_ ≠ (v239 : Value).ownBlock ∧ k_ ≠ gb228) v236 t235) ∧ Aside0 (Kd.N k37 37 w' w.heap.size (fun k_ => some k_ ≠ ((.slice Ao20 t232.length co20) : Value).ownBlock ∧ some k_ ≠ (v236 : Value).ownBlock ∧ k_ ≠ gb228) v239 t238) ∧ Aside0 (w'.heap[gb228]? = some (.cells #[.bool a1_0, (.slice A1_1 l1_1.length c1_1)] 25 (0, 0))) ∧ Aside0 (Below w.heap.size w w'))
                case atStart => exact ⟨(0), (by first | rfl | (simp; done) | (simp [*]; done)), H', ⟨Nat.le_refl _⟩, ⟨by (with_reducible repeat (first | apply nA_ | apply nN_ | apply nD_)); exact HO_5.out⟩, ⟨by (with_reducible repeat (first | apply nA_ | apply nN_ | apply nD_)); exact HO_6.out⟩, ⟨by (with_reducible repeat (first | apply nA_ | apply nN_ | apply nD_)); exact HO_7.out⟩, ⟨by (with_reducible repeat (first | refine blk_drewN ?_ _ | refine blk_drew ?_ | refine blk_alloc ?_ _)); exact BK228.out⟩, ⟨by repeat (first | (with_reducible first | exact HB.out | apply bA_ | apply bN_ | apply bD_ | refine below_set ?_ GE228.out) | exact HB.out)⟩⟩
                case round =>
                  clear H'
                  try clear c1
                  try clear c2
                  try clear p2
                  try clear c3
                  try clear c4
                  try clear p6
                  try clear c8
                  try clear c9
                  try clear c11
                  try clear c12
                  try clear c13
                  try clear c14
                  try clear c25
                  try clear c27
                  try clear c43
                  try clear hcz11_0
                  try clear hcz11_1
                  try clear hcz19_0
                  try clear hcz19_1
                  try clear hcz22_0
                  try clear hcz22_1
                  try clear hfz11_0
                  try clear hfz11_1
                  try clear hfz19_0
                  try clear hfz19_1
                  try clear hfz22_0
                  try clear hfz22_1
                  try clear p2
                  try clear p6
                  obtain ⟨x10_3, rfl, HA, HK3, HO_5, HO_6, HO_7, BK228, HB⟩ := hrel
                  cases gk with
                  | zero => exact absurd HA.out (by simp [cadencelaw3_NamesOf.l0])
                  | succ k3 =>
                    have H := HA.out
                    clear HA
                    simp only [cadencelaw3_NamesOf.l0] at H
                    by_cases c44 : x10_3 < (t235.length : Int)
                    · rw [if_pos c44] at H
                      have c44b0 : decide (x10_3 < (t235.length : Int)) = true := decide_eq_true c44
                      clear c44
                      by_cases c45 : 0 ≤ x10_3
                      · rw [if_pos c45] at H
                        have c45b0 : decide (0 ≤ x10_3) = true := decide_eq_true c45
                        clear c45
                        replace H := Option.bind_eq_some_iff.mp H
                        obtain ⟨t250, A460, H⟩ := H
                        replace H : (if t250 = true then (cadencelaw3_NamesOf.l0 k3 t232 t235 t238 (wrap64 (x10_3 + 1)) a1_0 l1_1) else (some false)) = some r := H
                        have A46 := Aside0.mk A460
                        clear A460
                        by_cases c47 : t250 = true
                        · subst c47
                          have H1 : (cadencelaw3_NamesOf.l0 k3 t232 t235 t238 (wrap64 (x10_3 + 1)) a1_0 l1_1) = some r := by rw [if_pos rfl] at H; exact H
                          clear H
                          have H := H1
                          clear H1
                          have H' := Aside0.mk H
                          clear H
                          obtain ⟨Ao48, co48, eo48⟩ := Kd.N_slice HO_6.out
                          subst eo48
                          try go_wp2
                          have n0_ := Aside0.mk (nD_ HO_5.out)
                          have n1_ := Aside0.mk (nD_ HO_6.out)
                          have n2_ := Aside0.mk (nD_ HO_7.out)
                          have n3_ := Aside0.mk (blk_drew BK228.out)
                          have n4_ := Aside0.mk (bD_ HB.out)
                          clear HO_5
                          clear HO_6
                          clear HO_7
                          clear BK228
                          clear HB
                          have HO_5 := n0_
                          have HO_6 := n1_
                          have HO_7 := n2_
                          have BK228 := n3_
                          have HB := n4_
                          clear n0_ n1_ n2_ n3_ n4_
                          have p249 : 0 ≤ (x10_3 : Int) := of_decide_eq_true (by first | (with_reducible assumption) | assumption)
                          have q249 : x10_3 < (t235.length : Int) := of_decide_eq_true (by first | (with_reducible assumption) | assumption)
                          obtain ⟨ad249, A249_1, c249_1, e249, hx249_0, hx249_1, hl249_1, hi249_1⟩ := at_T37 (Kd.N_reads' HO_6.out).2.2 x10_3 p249 q249
                          cases e249
                          obtain ⟨ce249, hce249, hMe249, hcc249⟩ := Kd.N_get HO_6.out z37 x10_3 p249 (by first | exact q249 | exact of_decide_eq_true (by first | (with_reducible assumption) | assumption) | (have e_ := (Kd.N_reads' HO_6.out).1; omega))
                          obtain ⟨ua249_1, uc249_1, rfl, ul249_1, ge249_1⟩ := k37_openF hMe249
                          have hv249_1 := hcc249 1 _ rfl
                          rw [add_field _ _ 1 (by omega)] at hv249_1
                          replace hv249_1 := Option.some.inj (hv249_1.symm.trans hx249_1)
                          injection hv249_1 with hva_ hvn_ hvc_
                          rw [hva_] at ge249_1
                          rw [hvc_] at ul249_1
                          have HL249_1 := Aside0.mk (show Kd.V k37 37 _ w.heap.size _ _ ((rd_T37 t235 x10_3).f1) from Kd.V_mk ul249_1 ge249_1)
                          clear hva_ hvn_ hvc_ ge249_1 ul249_1
                          clear hcc249 hce249
                          have HR249_1 := Aside0.mk hi249_1
                          have HC249_1 := Aside0.mk hl249_1
                          clear hi249_1 hl249_1
                          replace p249 := eq_true p249
                          replace q249 := eq_true q249
                          refine start_ (n := 8) (S := fun w' => w'.cell? ⟨gb228, 0, none⟩ = some (.bool a1_0) ∧ w'.cell? ⟨gb228, 1, none⟩ = some (.slice A1_1 l1_1.length c1_1) ∧ w'.cell? (ad249.add ((x10_3).toNat * 2)) = some (.string ((rd_T37 t235 x10_3).f0)) ∧ w'.cell? ⟨(ad249.add ((x10_3).toNat * 2)).block, (ad249.add ((x10_3).toNat * 2)).off + 1, none⟩ = some (.slice A249_1 ((rd_T37 t235 x10_3).f1).length c249_1)) (ds := []) #[false, false, false, false, false, false, false, false] (by kernel_rfl) rfl rfl ⟨(blk_cell BK228.out 0).trans rfl, (blk_cell BK228.out 1).trans rfl, hx249_0, hx249_1⟩ (fun hHeld => ?_); refine with_tabW cadencelaw3_NamesOf.tab13 cadencelaw3_NamesOf.bits13 (fun HT_ HW_ => ?_)
                          generalize wr.drew = w49 at HO_5 HO_6 HO_7 BK228 HB HL249_1 HR249_1 hx249_0 hx249_1 hHeld ⊢
                          refine pure_ (i := 1) (N := some 64) (v := ?_) (a' := ?_) #[false, true, false, false, false, false, false, false] rfl rfl (any_of HT_.out (by kernel_rfl)) (fun _ _ _ h => h) (Or.inl ⟨by rfl, ?_⟩) ?_ ?_
                          rotate_left
                          · intro w'
                            go_simp
                            with_reducible rfl
                          rotate_left
                          · simp only [Act.put, List.setIfInBounds_toArray, List.set_cons_zero, List.set_cons_succ, i64_w, i32_w]
                            rfl
                          refine pure_ (i := 2) (N := some 65) (v := ?_) (a' := ?_) #[false, true, true, false, false, false, false, false] rfl rfl (any_of HT_.out (by kernel_rfl)) (fun _ _ _ h => h) (Or.inl ⟨by rfl, ?_⟩) ?_ ?_
                          rotate_left
                          · intro w'
                            go_simp
                            with_reducible rfl
                          rotate_left
                          · simp only [Act.put, List.setIfInBounds_toArray, List.set_cons_zero, List.set_cons_succ, i64_w, i32_w]
                            rfl
                          refine pure_ (i := 3) (N := some 66) (v := ?_) (a' := ?_) #[false, true, true, true, false, false, false, false] rfl rfl (any_of HT_.out (by kernel_rfl)) (fun _ _ _ h => h) (Or.inl ⟨by rfl, ?_⟩) ?_ ?_
                          rotate_left
                          · intro w'
                            go_simp
                            with_reducible rfl
                          rotate_left
                          · simp only [Act.put, List.setIfInBounds_toArray, List.set_cons_zero, List.set_cons_succ, i64_w, i32_w]
                            rfl
                          refine pure_ (i := 4) (N := some 67) (v := ?_) (a' := ?_) #[false, true, true, true, true, false, false, false] rfl rfl (any_of HT_.out (by kernel_rfl)) (fun _ _ _ h => h) (Or.inl ⟨by rfl, ?_⟩) ?_ ?_
                          rotate_left
                          · intro w'
                            go_simp
                            with_reducible rfl
                          rotate_left
                          · simp only [Act.put, List.setIfInBounds_toArray, List.set_cons_zero, List.set_cons_succ, i64_w, i32_w]
                            rfl
                          refine take_ (i := 0) (N := some 63) (v := ?_) (a' := ?_) #[true, true, true, true, true, false, false, false] rfl rfl (take_ofW HT_.out HW_.out (by kernel_rfl)) (fun _ _ _ h => h) (Or.inl ⟨by rfl, ?_⟩) hHeld ?_ ?_
                          rotate_left
                          · rintro w' ⟨s0, s1, s2, s3⟩
                            go_simp
                            with_reducible rfl
                          rotate_left
                          · simp only [Act.put, List.setIfInBounds_toArray, List.set_cons_zero, List.set_cons_succ, i64_w, i32_w]
                            rfl
                          refine take_ (i := 5) (N := some 68) (v := ?_) (a' := ?_) #[true, true, true, true, true, true, false, false] rfl rfl (take_ofW HT_.out HW_.out (by kernel_rfl)) (fun _ _ _ h => h) (Or.inl ⟨by rfl, ?_⟩) hHeld ?_ ?_
                          rotate_left
                          · rintro w' ⟨s0, s1, s2, s3⟩
                            go_simp
                            with_reducible rfl
                          rotate_left
                          · simp only [Act.put, List.setIfInBounds_toArray, List.set_cons_zero, List.set_cons_succ, i64_w, i32_w]
                            rfl
                          refine one_ (i := 6) (N := some 69) #[true, true, true, true, true, true, true, false] rfl rfl (one_of HT_.out (by kernel_rfl)) (by decide) (fun K hK => ?_)
                          refine goes_ Try.func15 (by kernel_rfl) rfl #[.agg #[.bool a1_0, .slice A1_1 l1_1.length c1_1], .string ((rd_T37 t235 x10_3).f0)] (by rfl) rfl rfl (by (try simp only [List.map_toArray, List.map_cons, List.map_nil]); first | done | rfl | (simp only [List.length_drop, List.length_take]; rfl)) ?_
                          with_reducible refine (names_Has.calls k3 a1_0 _ _ l1_1 ((rd_T37 t235 x10_3).f0) true _ ?side1 ?side2 A46.out).mono ?_
                          (case side1 => repeat (first | exact (Kd.C_below HR1_1.out HB.out) | (with_reducible refine cA_ ?_ _) | (with_reducible refine cN_ ?_ _) | (with_reducible refine cD_ ?_)))
                          (case side2 => exact HC1_1.out)
                          rintro e w50 ⟨rfl, hb⟩
                          have HS2_ := (hb.cell (World.block_lt_of_cell? _ _ (hHeld.2.2.1))).trans (hHeld.2.2.1)
                          have HS3_ := (hb.cell (World.block_lt_of_cell? _ _ (hHeld.2.2.2))).trans (hHeld.2.2.2)
                          refine ⟨_, rfl, ?_⟩
                          have n0_ := Aside0.mk (Kd.N_below (by (with_reducible repeat (first | apply nA_ | apply nN_ | apply nD_)); exact HO_5.out) hb)
                          have n1_ := Aside0.mk (Kd.N_below (by (with_reducible repeat (first | apply nA_ | apply nN_ | apply nD_)); exact HO_6.out) hb)
                          have n2_ := Aside0.mk (Kd.N_below (by (with_reducible repeat (first | apply nA_ | apply nN_ | apply nD_)); exact HO_7.out) hb)
                          have n3_ := Aside0.mk (Kd.V_below (by (with_reducible repeat (first | apply vA_ | apply vN_ | apply vD_)); exact HL249_1.out) hb)
                          have n4_ := Aside0.mk (blk_below (g := gb228) (o := .cells #[.bool a1_0, .slice A1_1 l1_1.length c1_1] 25 (0, 0)) (by (with_reducible repeat (first | refine blk_drewN ?_ _ | refine blk_drew ?_ | refine blk_alloc ?_ _)); exact BK228.out) hb)
                          have n5_ := Aside0.mk (Kd.C_below (by repeat (first | (with_reducible exact HR249_1.out) | (with_reducible refine cA_ ?_ _) | (with_reducible refine cN_ ?_ _) | (with_reducible refine cD_ ?_) | exact HR249_1.out)) hb)
                          have n6_ := Aside0.mk (below_step (by repeat (first | (with_reducible first | exact HB.out | apply bA_ | apply bN_ | apply bD_ | refine below_set ?_ GE228.out) | exact HB.out)) hb)
                          clear HO_5
                          clear HO_6
                          clear HO_7
                          clear HL249_1
                          clear BK228
                          clear HR249_1
                          clear HB
                          have HO_5 := n0_
                          have HO_6 := n1_
                          have HO_7 := n2_
                          have HL249_1 := n3_
                          have BK228 := n4_
                          have HR249_1 := n5_
                          have HB := n6_
                          clear n0_ n1_ n2_ n3_ n4_ n5_ n6_
                          (try clear hb)
                          (try clear hb2)
                          (try clear hk)
                          (try clear hi)
                          refine hK.out _ _ ⟨(blk_cell BK228.out 0).trans rfl, (blk_cell BK228.out 1).trans rfl, HS2_, HS3_⟩ (fun hHeld => ?_)
                          clear hK K
                          refine norm_ (a' := ?_) ?_ ?_
                          rotate_left
                          · show Act.put _ (some 69) _ = _
                            simp only [Act.put, List.setIfInBounds_toArray, List.set_cons_zero, List.set_cons_succ, i64_w, i32_w]
                            rfl
                          refine pure_ (i := 7) (N := some 70) (v := ?_) (a' := ?_) #[true, true, true, true, true, true, true, true] rfl rfl (any_of HT_.out (by kernel_rfl)) (fun _ _ _ h => h) (Or.inl ⟨by rfl, ?_⟩) ?_ ?_
                          rotate_left
                          · intro w'
                            go_simp
                            with_reducible rfl
                          rotate_left
                          · simp only [Act.put, List.setIfInBounds_toArray, List.set_cons_zero, List.set_cons_succ, i64_w, i32_w]
                            rfl
                          refine done_ (done_of HT_.out (by kernel_rfl)) ?_
                          try go_wp2
                          go_roundg k3
                          case measure => have := HJ4.out; have := HJ16.out; have := HK3.out; omega
                          case rel => exact ⟨(wrap64 (x10_3 + 1)), (by first | rfl | (simp; done) | (simp [*]; done)), H', ⟨by have := HJ4.out; have := HJ16.out; have := HK3.out; omega⟩, ⟨by (with_reducible repeat (first | apply nA_ | apply nN_ | apply nD_)); exact HO_5.out⟩, ⟨by (with_reducible repeat (first | apply nA_ | apply nN_ | apply nD_)); exact HO_6.out⟩, ⟨by (with_reducible repeat (first | apply nA_ | apply nN_ | apply nD_)); exact HO_7.out⟩, ⟨by (with_reducible repeat (first | refine blk_drewN ?_ _ | refine blk_drew ?_ | refine blk_alloc ?_ _)); exact BK228.out⟩, ⟨by repeat (first | (with_reducible first | exact HB.out | apply bA_ | apply bN_ | apply bD_ | refine below_set ?_ GE228.out) | exact HB.out)⟩⟩
                        · replace c47 := Bool.eq_false_iff.mpr c47
                          subst c47
                          have H1 : (some false) = some r := by rw [if_neg (show ¬ (false = true) by decide)] at H; exact H
                          clear H
                          have H := H1
                          clear H1
                          obtain rfl := Option.some.inj H
                          obtain ⟨Ao51, co51, eo51⟩ := Kd.N_slice HO_6.out
                          subst eo51
                          try go_wp2
                          have n0_ := Aside0.mk (nD_ HO_5.out)
                          have n1_ := Aside0.mk (nD_ HO_6.out)
                          have n2_ := Aside0.mk (nD_ HO_7.out)
                          have n3_ := Aside0.mk (blk_drew BK228.out)
                          have n4_ := Aside0.mk (bD_ HB.out)
                          clear HO_5
                          clear HO_6
                          clear HO_7
                          clear BK228
                          clear HB
                          have HO_5 := n0_
                          have HO_6 := n1_
                          have HO_7 := n2_
                          have BK228 := n3_
                          have HB := n4_
                          clear n0_ n1_ n2_ n3_ n4_
                          have p249 : 0 ≤ (x10_3 : Int) := of_decide_eq_true (by first | (with_reducible assumption) | assumption)
                          have q249 : x10_3 < (t235.length : Int) := of_decide_eq_true (by first | (with_reducible assumption) | assumption)
                          obtain ⟨ad249, A249_1, c249_1, e249, hx249_0, hx249_1, hl249_1, hi249_1⟩ := at_T37 (Kd.N_reads' HO_6.out).2.2 x10_3 p249 q249
                          cases e249
                          obtain ⟨ce249, hce249, hMe249, hcc249⟩ := Kd.N_get HO_6.out z37 x10_3 p249 (by first | exact q249 | exact of_decide_eq_true (by first | (with_reducible assumption) | assumption) | (have e_ := (Kd.N_reads' HO_6.out).1; omega))
                          obtain ⟨ua249_1, uc249_1, rfl, ul249_1, ge249_1⟩ := k37_openF hMe249
                          have hv249_1 := hcc249 1 _ rfl
                          rw [add_field _ _ 1 (by omega)] at hv249_1
                          replace hv249_1 := Option.some.inj (hv249_1.symm.trans hx249_1)
                          injection hv249_1 with hva_ hvn_ hvc_
                          rw [hva_] at ge249_1
                          rw [hvc_] at ul249_1
                          have HL249_1 := Aside0.mk (show Kd.V k37 37 _ w.heap.size _ _ ((rd_T37 t235 x10_3).f1) from Kd.V_mk ul249_1 ge249_1)
                          clear hva_ hvn_ hvc_ ge249_1 ul249_1
                          clear hcc249 hce249
                          have HR249_1 := Aside0.mk hi249_1
                          have HC249_1 := Aside0.mk hl249_1
                          clear hi249_1 hl249_1
                          replace p249 := eq_true p249
                          replace q249 := eq_true q249
                          refine start_ (n := 8) (S := fun w' => w'.cell? ⟨gb228, 0, none⟩ = some (.bool a1_0) ∧ w'.cell? ⟨gb228, 1, none⟩ = some (.slice A1_1 l1_1.length c1_1) ∧ w'.cell? (ad249.add ((x10_3).toNat * 2)) = some (.string ((rd_T37 t235 x10_3).f0)) ∧ w'.cell? ⟨(ad249.add ((x10_3).toNat * 2)).block, (ad249.add ((x10_3).toNat * 2)).off + 1, none⟩ = some (.slice A249_1 ((rd_T37 t235 x10_3).f1).length c249_1)) (ds := []) #[false, false, false, false, false, false, false, false] (by kernel_rfl) rfl rfl ⟨(blk_cell BK228.out 0).trans rfl, (blk_cell BK228.out 1).trans rfl, hx249_0, hx249_1⟩ (fun hHeld => ?_); refine with_tabW cadencelaw3_NamesOf.tab13 cadencelaw3_NamesOf.bits13 (fun HT_ HW_ => ?_)
                          generalize wr.drew = w52 at HO_5 HO_6 HO_7 BK228 HB HL249_1 HR249_1 hx249_0 hx249_1 hHeld ⊢
                          refine pure_ (i := 1) (N := some 64) (v := ?_) (a' := ?_) #[false, true, false, false, false, false, false, false] rfl rfl (any_of HT_.out (by kernel_rfl)) (fun _ _ _ h => h) (Or.inl ⟨by rfl, ?_⟩) ?_ ?_
                          rotate_left
                          · intro w'
                            go_simp
                            with_reducible rfl
                          rotate_left
                          · simp only [Act.put, List.setIfInBounds_toArray, List.set_cons_zero, List.set_cons_succ, i64_w, i32_w]
                            rfl
                          refine pure_ (i := 2) (N := some 65) (v := ?_) (a' := ?_) #[false, true, true, false, false, false, false, false] rfl rfl (any_of HT_.out (by kernel_rfl)) (fun _ _ _ h => h) (Or.inl ⟨by rfl, ?_⟩) ?_ ?_
                          rotate_left
                          · intro w'
                            go_simp
                            with_reducible rfl
                          rotate_left
                          · simp only [Act.put, List.setIfInBounds_toArray, List.set_cons_zero, List.set_cons_succ, i64_w, i32_w]
                            rfl
                          refine pure_ (i := 3) (N := some 66) (v := ?_) (a' := ?_) #[false, true, true, true, false, false, false, false] rfl rfl (any_of HT_.out (by kernel_rfl)) (fun _ _ _ h => h) (Or.inl ⟨by rfl, ?_⟩) ?_ ?_
                          rotate_left
                          · intro w'
                            go_simp
                            with_reducible rfl
                          rotate_left
                          · simp only [Act.put, List.setIfInBounds_toArray, List.set_cons_zero, List.set_cons_succ, i64_w, i32_w]
                            rfl
                          refine pure_ (i := 4) (N := some 67) (v := ?_) (a' := ?_) #[false, true, true, true, true, false, false, false] rfl rfl (any_of HT_.out (by kernel_rfl)) (fun _ _ _ h => h) (Or.inl ⟨by rfl, ?_⟩) ?_ ?_
                          rotate_left
                          · intro w'
                            go_simp
                            with_reducible rfl
                          rotate_left
                          · simp only [Act.put, List.setIfInBounds_toArray, List.set_cons_zero, List.set_cons_succ, i64_w, i32_w]
                            rfl
                          refine take_ (i := 0) (N := some 63) (v := ?_) (a' := ?_) #[true, true, true, true, true, false, false, false] rfl rfl (take_ofW HT_.out HW_.out (by kernel_rfl)) (fun _ _ _ h => h) (Or.inl ⟨by rfl, ?_⟩) hHeld ?_ ?_
                          rotate_left
                          · rintro w' ⟨s0, s1, s2, s3⟩
                            go_simp
                            with_reducible rfl
                          rotate_left
                          · simp only [Act.put, List.setIfInBounds_toArray, List.set_cons_zero, List.set_cons_succ, i64_w, i32_w]
                            rfl
                          refine take_ (i := 5) (N := some 68) (v := ?_) (a' := ?_) #[true, true, true, true, true, true, false, false] rfl rfl (take_ofW HT_.out HW_.out (by kernel_rfl)) (fun _ _ _ h => h) (Or.inl ⟨by rfl, ?_⟩) hHeld ?_ ?_
                          rotate_left
                          · rintro w' ⟨s0, s1, s2, s3⟩
                            go_simp
                            with_reducible rfl
                          rotate_left
                          · simp only [Act.put, List.setIfInBounds_toArray, List.set_cons_zero, List.set_cons_succ, i64_w, i32_w]
                            rfl
                          refine one_ (i := 6) (N := some 69) #[true, true, true, true, true, true, true, false] rfl rfl (one_of HT_.out (by kernel_rfl)) (by decide) (fun K hK => ?_)
                          refine goes_ Try.func15 (by kernel_rfl) rfl #[.agg #[.bool a1_0, .slice A1_1 l1_1.length c1_1], .string ((rd_T37 t235 x10_3).f0)] (by rfl) rfl rfl (by (try simp only [List.map_toArray, List.map_cons, List.map_nil]); first | done | rfl | (simp only [List.length_drop, List.length_take]; rfl)) ?_
                          with_reducible refine (names_Has.calls k3 a1_0 _ _ l1_1 ((rd_T37 t235 x10_3).f0) false _ ?side1 ?side2 A46.out).mono ?_
                          (case side1 => repeat (first | exact (Kd.C_below HR1_1.out HB.out) | (with_reducible refine cA_ ?_ _) | (with_reducible refine cN_ ?_ _) | (with_reducible refine cD_ ?_)))
                          (case side2 => exact HC1_1.out)
                          rintro e w53 ⟨rfl, hb⟩
                          have HS2_ := (hb.cell (World.block_lt_of_cell? _ _ (hHeld.2.2.1))).trans (hHeld.2.2.1)
                          have HS3_ := (hb.cell (World.block_lt_of_cell? _ _ (hHeld.2.2.2))).trans (hHeld.2.2.2)
                          refine ⟨_, rfl, ?_⟩
                          have n0_ := Aside0.mk (Kd.N_below (by (with_reducible repeat (first | apply nA_ | apply nN_ | apply nD_)); exact HO_5.out) hb)
                          have n1_ := Aside0.mk (Kd.N_below (by (with_reducible repeat (first | apply nA_ | apply nN_ | apply nD_)); exact HO_6.out) hb)
                          have n2_ := Aside0.mk (Kd.N_below (by (with_reducible repeat (first | apply nA_ | apply nN_ | apply nD_)); exact HO_7.out) hb)
                          have n3_ := Aside0.mk (Kd.V_below (by (with_reducible repeat (first | apply vA_ | apply vN_ | apply vD_)); exact HL249_1.out) hb)
                          have n4_ := Aside0.mk (blk_below (g := gb228) (o := .cells #[.bool a1_0, .slice A1_1 l1_1.length c1_1] 25 (0, 0)) (by (with_reducible repeat (first | refine blk_drewN ?_ _ | refine blk_drew ?_ | refine blk_alloc ?_ _)); exact BK228.out) hb)
                          have n5_ := Aside0.mk (Kd.C_below (by repeat (first | (with_reducible exact HR249_1.out) | (with_reducible refine cA_ ?_ _) | (with_reducible refine cN_ ?_ _) | (with_reducible refine cD_ ?_) | exact HR249_1.out)) hb)
                          have n6_ := Aside0.mk (below_step (by repeat (first | (with_reducible first | exact HB.out | apply bA_ | apply bN_ | apply bD_ | refine below_set ?_ GE228.out) | exact HB.out)) hb)
                          clear HO_5
                          clear HO_6
                          clear HO_7
                          clear HL249_1
                          clear BK228
                          clear HR249_1
                          clear HB
                          have HO_5 := n0_
                          have HO_6 := n1_
                          have HO_7 := n2_
                          have HL249_1 := n3_
                          have BK228 := n4_
                          have HR249_1 := n5_
                          have HB := n6_
                          clear n0_ n1_ n2_ n3_ n4_ n5_ n6_
                          (try clear hb)
                          (try clear hb2)
                          (try clear hk)
                          (try clear hi)
                          refine hK.out _ _ ⟨(blk_cell BK228.out 0).trans rfl, (blk_cell BK228.out 1).trans rfl, HS2_, HS3_⟩ (fun hHeld => ?_)
                          clear hK K
                          refine norm_ (a' := ?_) ?_ ?_
                          rotate_left
                          · show Act.put _ (some 69) _ = _
                            simp only [Act.put, List.setIfInBounds_toArray, List.set_cons_zero, List.set_cons_succ, i64_w, i32_w]
                            rfl
                          refine pure_ (i := 7) (N := some 70) (v := ?_) (a' := ?_) #[true, true, true, true, true, true, true, true] rfl rfl (any_of HT_.out (by kernel_rfl)) (fun _ _ _ h => h) (Or.inl ⟨by rfl, ?_⟩) ?_ ?_
                          rotate_left
                          · intro w'
                            go_simp
                            with_reducible rfl
                          rotate_left
                          · simp only [Act.put, List.setIfInBounds_toArray, List.set_cons_zero, List.set_cons_succ, i64_w, i32_w]
                            rfl
                          refine done_ (done_of HT_.out (by kernel_rfl)) ?_
                          try go_wp2
                          go_ret
                          exact ⟨by first | rfl | (simp [errW_none, errW_some] <;> rfl) | (simp [*, errW_none, errW_some] <;> rfl), by repeat (first | (with_reducible first | exact HB.out | apply bA_ | apply bN_ | apply bD_ | refine below_set ?_ GE228.out) | exact HB.out)⟩
                      · rw [if_neg c45] at H
                        exact absurd H (by simp)
                    · rw [if_neg c44] at H
                      have c44b0 : decide (x10_3 < (t235.length : Int)) = false := decide_eq_false c44
                      clear c44
                      replace H := Option.bind_eq_some_iff.mp H
                      obtain ⟨⟨t251, t252⟩, A540, H⟩ := H
                      replace H : ((names_Of.f k3 t232 t251 t252).bind fun bt255 => ((cadenceref2_Same.f k3 bt255.1 t238).bind fun t261 => (if t261 = true then ((cadenceref2_Same.f k3 bt255.2 t235).bind fun t262 => (some t262)) else (some false)))) = some r := H
                      have A54 := Aside0.mk A540
                      clear A540
                      replace H := Option.bind_eq_some_iff.mp H
                      obtain ⟨⟨t255, t258⟩, A550, H⟩ := H
                      replace H : ((cadenceref2_Same.f k3 t255 t238).bind fun t261 => (if t261 = true then ((cadenceref2_Same.f k3 t258 t235).bind fun t262 => (some t262)) else (some false))) = some r := H
                      have A55 := Aside0.mk A550
                      clear A550
                      replace H := Option.bind_eq_some_iff.mp H
                      obtain ⟨t261, A560, H⟩ := H
                      replace H : (if t261 = true then ((cadenceref2_Same.f k3 t258 t235).bind fun t262 => (some t262)) else (some false)) = some r := H
                      have A56 := Aside0.mk A560
                      clear A560
                      by_cases c57 : t261 = true
                      · subst c57
                        have H1 : ((cadenceref2_Same.f k3 t258 t235).bind fun t262 => (some t262)) = some r := by rw [if_pos rfl] at H; exact H
                        clear H
                        have H := H1
                        clear H1
                        replace H := Option.bind_eq_some_iff.mp H
                        obtain ⟨t262, A580, H⟩ := H
                        replace H : (some t262) = some r := H
                        have A58 := Aside0.mk A580
                        clear A580
                        obtain rfl := Option.some.inj H
                        obtain ⟨Ao59, co59, eo59⟩ := Kd.N_slice HO_6.out
                        subst eo59
                        have hcz60_0 : wr.cell? ⟨gb228, 0, none⟩ = some (.bool a1_0) := (blk_cell BK228.out 0).trans rfl
                        have hcz60_1 : wr.cell? ⟨gb228, 1, none⟩ = some (.slice A1_1 l1_1.length c1_1) := (blk_cell BK228.out 1).trans rfl
                        have hfz60_0 := blk_frozen BK228.out 0
                        have hfz60_1 := blk_frozen BK228.out 1
                        go_wp2_with (first | ((with_reducible refine gate_callee (f := 16) rfl ?_); refine goesL_ (some 74) rfl rfl Try.func16 (by kernel_rfl) rfl #[.agg #[.bool a1_0, .slice A1_1 l1_1.length c1_1]] rfl (by (try simp only [List.map_toArray, List.map_cons, List.map_nil]); first | done | rfl | (simp only [List.length_drop, List.length_take]; rfl)) ?_; (with_reducible refine (names_Not.calls a1_0 _ _ l1_1 t251 t252 _ ?side1 ?side2 A54.out).mono ?_); (case side1 => repeat (first | exact (Kd.C_below HR1_1.out HB.out) | (with_reducible refine cA_ ?_ _) | (with_reducible refine cN_ ?_ _) | (with_reducible refine cD_ ?_))); (case side2 => exact HC1_1.out); rintro e w61 ⟨v253, rfl, ho0, hb⟩; refine ⟨_, rfl, ?_⟩; have n0_ := Aside0.mk (Kd.N_elder' (by (with_reducible repeat (first | apply nA_ | apply nN_ | apply nD_)); exact HO_5.out) (Kd.R_base ho0) hb); have n1_ := Aside0.mk (Kd.N_elder' (by (with_reducible repeat (first | apply nA_ | apply nN_ | apply nD_)); exact HO_6.out) (Kd.R_base ho0) hb); have n2_ := Aside0.mk (Kd.N_elder' (by (with_reducible repeat (first | apply nA_ | apply nN_ | apply nD_)); exact HO_7.out) (Kd.R_base ho0) hb); have n3_ := Aside0.mk (Kd.R_lower ho0 (below_size (by repeat (first | (with_reducible first | exact HB.out | apply bA_ | apply bN_ | apply bD_ | refine below_set ?_ GE228.out) | exact HB.out)))); have n4_ := Aside0.mk (blk_below (g := gb228) (o := .cells #[.bool a1_0, .slice A1_1 l1_1.length c1_1] 25 (0, 0)) (by (with_reducible repeat (first | refine blk_drewN ?_ _ | refine blk_drew ?_ | refine blk_alloc ?_ _)); exact BK228.out) hb); have n5_ := Aside0.mk (below_step (by repeat (first | (with_reducible first | exact HB.out | apply bA_ | apply bN_ | apply bD_ | refine below_set ?_ GE228.out) | exact HB.out)) hb); clear HO_5; clear HO_6; clear HO_7; clear BK228; clear HB; have HO_5 := n0_; have HO_6 := n1_; have HO_7 := n2_; have HO254 := n3_; have BK228 := n4_; have HB := n5_; clear n0_ n1_ n2_ n3_ n4_ n5_; (try clear hb); (try clear hb2); (try clear hk); (try clear hi); (try clear ho0); obtain ⟨Ao62, co62, eo62⟩ := Kd.R_slice HO254.out; subst eo62) | ((with_reducible refine gate_callee (f := 12) rfl ?_); refine goesL_ (some 75) rfl rfl Try.func12 (by kernel_rfl) rfl #[.slice Ao20 t232.length co20, .agg #[.bool t251, .slice Ao62 t252.length co62]] rfl (by (try simp only [List.map_toArray, List.map_cons, List.map_nil]); first | done | rfl | (simp only [List.length_drop, List.length_take]; rfl)) ?_; (with_reducible refine (names_Of.calls k3 _ _ t232 t251 _ _ t252 t255 t258 _ ?side1 ?side2 ?side3 ?side4 A55.out).mono ?_); (case side1 => repeat (first | exact (Kd.N_reads' HO_5.out).2.2 | (with_reducible refine cA_ ?_ _) | (with_reducible refine cN_ ?_ _) | (with_reducible refine cD_ ?_))); (case side2 => exact (Kd.N_reads' HO_5.out).2.1); (case side3 => repeat (first | exact (Kd.R_reads' HO254.out).2.2 | (with_reducible refine cA_ ?_ _) | (with_reducible refine cN_ ?_ _) | (with_reducible refine cD_ ?_))); (case side4 => exact (Kd.R_reads' HO254.out).2.1); rintro e w63 ⟨v256, v259, rfl, ho0, ho1, hb⟩; refine ⟨_, rfl, ?_⟩; have n0_ := Aside0.mk (Kd.N_mono (Kd.N_told (Kd.N_told (Kd.N_old (by (with_reducible repeat (first | apply nA_ | apply nN_ | apply nD_)); exact HO_5.out) hb) (Kd.N_base ho0)) (Kd.N_base ho1)) (fun _ h_ => h_.1)); have n1_ := Aside0.mk (Kd.N_mono (Kd.N_told (Kd.N_told (Kd.N_old (by (with_reducible repeat (first | apply nA_ | apply nN_ | apply nD_)); exact HO_6.out) hb) (Kd.N_base ho0)) (Kd.N_base ho1)) (fun _ h_ => h_.1)); have n2_ := Aside0.mk (Kd.N_mono (Kd.N_told (Kd.N_told (Kd.N_old (by (with_reducible repeat (first | apply nA_ | apply nN_ | apply nD_)); exact HO_7.out) hb) (Kd.N_base ho0)) (Kd.N_base ho1)) (fun _ h_ => h_.1)); have n3_ := Aside0.mk (Kd.R_below (by (with_reducible repeat (first | apply rA_ | apply rN_ | apply rD_)); exact HO254.out) hb); have n4_ := Aside0.mk (Kd.N_lower (Kd.N_mono (ok' := fun k_ => some k_ ≠ (v259 : Value).ownBlock ∧ some k_ ≠ (.slice Ao20 t232.length co20 : Value).ownBlock ∧ some k_ ≠ (.slice Ao59 t235.length co59 : Value).ownBlock ∧ some k_ ≠ (v239 : Value).ownBlock ∧ some k_ ≠ (.slice Ao62 t252.length co62 : Value).ownBlock ∧ k_ ≠ gb228) ho0 (fun k_ hk_ => ⟨hk_.2, (Kd.fresh' (Kd.N_lt (by (with_reducible repeat (first | apply nA_ | apply nN_ | apply nD_)); exact HO_5.out)) k_ hk_.1), (Kd.fresh' (Kd.N_lt (by (with_reducible repeat (first | apply nA_ | apply nN_ | apply nD_)); exact HO_6.out)) k_ hk_.1), (Kd.fresh' (Kd.N_lt (by (with_reducible repeat (first | apply nA_ | apply nN_ | apply nD_)); exact HO_7.out)) k_ hk_.1), (Kd.fresh' (Kd.R_lt (by (with_reducible repeat (first | apply rA_ | apply rN_ | apply rD_)); exact HO254.out)) k_ hk_.1), (Kd.freshB (g := gb228) (o := .cells #[.bool a1_0, .slice A1_1 l1_1.length c1_1] 25 (0, 0)) (by (with_reducible repeat (first | refine blk_drewN ?_ _ | refine blk_drew ?_ | refine blk_alloc ?_ _)); exact BK228.out) k_ hk_.1)⟩)) (below_size (by repeat (first | (with_reducible first | exact HB.out | apply bA_ | apply bN_ | apply bD_ | refine below_set ?_ GE228.out) | exact HB.out)))); have n5_ := Aside0.mk (Kd.N_lower (Kd.N_mono (ok' := fun k_ => some k_ ≠ (v256 : Value).ownBlock ∧ some k_ ≠ (.slice Ao20 t232.length co20 : Value).ownBlock ∧ some k_ ≠ (.slice Ao59 t235.length co59 : Value).ownBlock ∧ some k_ ≠ (v239 : Value).ownBlock ∧ some k_ ≠ (.slice Ao62 t252.length co62 : Value).ownBlock ∧ k_ ≠ gb228) ho1 (fun k_ hk_ => ⟨hk_.2, (Kd.fresh' (Kd.N_lt (by (with_reducible repeat (first | apply nA_ | apply nN_ | apply nD_)); exact HO_5.out)) k_ hk_.1), (Kd.fresh' (Kd.N_lt (by (with_reducible repeat (first | apply nA_ | apply nN_ | apply nD_)); exact HO_6.out)) k_ hk_.1), (Kd.fresh' (Kd.N_lt (by (with_reducible repeat (first | apply nA_ | apply nN_ | apply nD_)); exact HO_7.out)) k_ hk_.1), (Kd.fresh' (Kd.R_lt (by (with_reducible repeat (first | apply rA_ | apply rN_ | apply rD_)); exact HO254.out)) k_ hk_.1), (Kd.freshB (g := gb228) (o := .cells #[.bool a1_0, .slice A1_1 l1_1.length c1_1] 25 (0, 0)) (by (with_reducible repeat (first | refine blk_drewN ?_ _ | refine blk_drew ?_ | refine blk_alloc ?_ _)); exact BK228.out) k_ hk_.1)⟩)) (below_size (by repeat (first | (with_reducible first | exact HB.out | apply bA_ | apply bN_ | apply bD_ | refine below_set ?_ GE228.out) | exact HB.out)))); have n6_ := Aside0.mk (blk_below (g := gb228) (o := .cells #[.bool a1_0, .slice A1_1 l1_1.length c1_1] 25 (0, 0)) (by (with_reducible repeat (first | refine blk_drewN ?_ _ | refine blk_drew ?_ | refine blk_alloc ?_ _)); exact BK228.out) hb); have n7_ := Aside0.mk (below_step (by repeat (first | (with_reducible first | exact HB.out | apply bA_ | apply bN_ | apply bD_ | refine below_set ?_ GE228.out) | exact HB.out)) hb); clear HO_5; clear HO_6; clear HO_7; clear HO254; clear BK228; clear HB; have HO_5 := n0_; have HO_6 := n1_; have HO_7 := n2_; have HO254 := n3_; have HO257 := n4_; have HO260 := n5_; have BK228 := n6_; have HB := n7_; clear n0_ n1_ n2_ n3_ n4_ n5_ n6_ n7_; (try clear hb); (try clear hb2); (try clear hk); (try clear hi); (try clear ho0); (try clear ho1); obtain ⟨Ao64, co64, eo64⟩ := Kd.N_slice HO257.out; subst eo64; obtain ⟨Ao65, co65, eo65⟩ := Kd.N_slice HO_7.out; subst eo65) | ((with_reducible refine gate_callee (f := 14) rfl ?_); refine goesL_ (some 80) rfl rfl Try.func14 (by kernel_rfl) rfl #[.slice Ao64 t255.length co64, .slice Ao65 t238.length co65] rfl (by (try simp only [List.map_toArray, List.map_cons, List.map_nil]); first | done | rfl | (simp only [List.length_drop, List.length_take]; rfl)) ?_; (with_reducible refine (cadenceref2_Same.calls k3 _ _ t255 _ _ t238 true _ ?side1 ?side2 ?side3 ?side4 A56.out).mono ?_); (case side1 => repeat (first | exact (Kd.N_reads' HO257.out).2.2 | (with_reducible refine cA_ ?_ _) | (with_reducible refine cN_ ?_ _) | (with_reducible refine cD_ ?_))); (case side2 => exact (Kd.N_reads' HO257.out).2.1); (case side3 => repeat (first | exact (Kd.N_reads' HO_7.out).2.2 | (with_reducible refine cA_ ?_ _) | (with_reducible refine cN_ ?_ _) | (with_reducible refine cD_ ?_))); (case side4 => exact (Kd.N_reads' HO_7.out).2.1); rintro e w66 ⟨rfl, hb⟩; refine ⟨_, rfl, ?_⟩; have n0_ := Aside0.mk (Kd.N_below (by (with_reducible repeat (first | apply nA_ | apply nN_ | apply nD_)); exact HO_5.out) hb); have n1_ := Aside0.mk (Kd.N_below (by (with_reducible repeat (first | apply nA_ | apply nN_ | apply nD_)); exact HO_6.out) hb); have n2_ := Aside0.mk (Kd.N_below (by (with_reducible repeat (first | apply nA_ | apply nN_ | apply nD_)); exact HO_7.out) hb); have n3_ := Aside0.mk (Kd.R_below (by (with_reducible repeat (first | apply rA_ | apply rN_ | apply rD_)); exact HO254.out) hb); have n4_ := Aside0.mk (Kd.N_below (by (with_reducible repeat (first | apply nA_ | apply nN_ | apply nD_)); exact HO257.out) hb); have n5_ := Aside0.mk (Kd.N_below (by (with_reducible repeat (first | apply nA_ | apply nN_ | apply nD_)); exact HO260.out) hb); have n6_ := Aside0.mk (blk_below (g := gb228) (o := .cells #[.bool a1_0, .slice A1_1 l1_1.length c1_1] 25 (0, 0)) (by (with_reducible repeat (first | refine blk_drewN ?_ _ | refine blk_drew ?_ | refine blk_alloc ?_ _)); exact BK228.out) hb); have n7_ := Aside0.mk (below_step (by repeat (first | (with_reducible first | exact HB.out | apply bA_ | apply bN_ | apply bD_ | refine below_set ?_ GE228.out) | exact HB.out)) hb); clear HO_5; clear HO_6; clear HO_7; clear HO254; clear HO257; clear HO260; clear BK228; clear HB; have HO_5 := n0_; have HO_6 := n1_; have HO_7 := n2_; have HO254 := n3_; have HO257 := n4_; have HO260 := n5_; have BK228 := n6_; have HB := n7_; clear n0_ n1_ n2_ n3_ n4_ n5_ n6_ n7_; (try clear hb); (try clear hb2); (try clear hk); (try clear hi); obtain ⟨Ao67, co67, eo67⟩ := Kd.N_slice HO260.out; subst eo67) | (go_at_call 14; (with_reducible refine (cadenceref2_Same.calls k3 _ _ t258 _ _ t235 t262 _ ?side1 ?side2 ?side3 ?side4 A58.out).mono ?_); (case side1 => repeat (first | exact (Kd.N_reads' HO260.out).2.2 | (with_reducible refine cA_ ?_ _) | (with_reducible refine cN_ ?_ _) | (with_reducible refine cD_ ?_))); (case side2 => exact (Kd.N_reads' HO260.out).2.1); (case side3 => repeat (first | exact (Kd.N_reads' HO_6.out).2.2 | (with_reducible refine cA_ ?_ _) | (with_reducible refine cN_ ?_ _) | (with_reducible refine cD_ ?_))); (case side4 => exact (Kd.N_reads' HO_6.out).2.1); rintro e w68 ⟨rfl, hb⟩; have n0_ := Aside0.mk (Kd.N_below (by (with_reducible repeat (first | apply nA_ | apply nN_ | apply nD_)); exact HO_5.out) hb); have n1_ := Aside0.mk (Kd.N_below (by (with_reducible repeat (first | apply nA_ | apply nN_ | apply nD_)); exact HO_6.out) hb); have n2_ := Aside0.mk (Kd.N_below (by (with_reducible repeat (first | apply nA_ | apply nN_ | apply nD_)); exact HO_7.out) hb); have n3_ := Aside0.mk (Kd.R_below (by (with_reducible repeat (first | apply rA_ | apply rN_ | apply rD_)); exact HO254.out) hb); have n4_ := Aside0.mk (Kd.N_below (by (with_reducible repeat (first | apply nA_ | apply nN_ | apply nD_)); exact HO257.out) hb); have n5_ := Aside0.mk (Kd.N_below (by (with_reducible repeat (first | apply nA_ | apply nN_ | apply nD_)); exact HO260.out) hb); have n6_ := Aside0.mk (blk_below (g := gb228) (o := .cells #[.bool a1_0, .slice A1_1 l1_1.length c1_1] 25 (0, 0)) (by (with_reducible repeat (first | refine blk_drewN ?_ _ | refine blk_drew ?_ | refine blk_alloc ?_ _)); exact BK228.out) hb); have n7_ := Aside0.mk (below_step (by repeat (first | (with_reducible first | exact HB.out | apply bA_ | apply bN_ | apply bD_ | refine below_set ?_ GE228.out) | exact HB.out)) hb); clear HO_5; clear HO_6; clear HO_7; clear HO254; clear HO257; clear HO260; clear BK228; clear HB; have HO_5 := n0_; have HO_6 := n1_; have HO_7 := n2_; have HO254 := n3_; have HO257 := n4_; have HO260 := n5_; have BK228 := n6_; have HB := n7_; clear n0_ n1_ n2_ n3_ n4_ n5_ n6_ n7_; (try clear hb); (try clear hb2); (try clear hk); (try clear hi)))
                        go_ret
                        exact ⟨by first | rfl | (simp [errW_none, errW_some] <;> rfl) | (simp [*, errW_none, errW_some] <;> rfl), by repeat (first | (with_reducible first | exact HB.out | apply bA_ | apply bN_ | apply bD_ | refine below_set ?_ GE228.out) | exact HB.out)⟩
                      · replace c57 := Bool.eq_false_iff.mpr c57
                        subst c57
                        have H1 : (some false) = some r := by rw [if_neg (show ¬ (false = true) by decide)] at H; exact H
                        clear H
                        have H := H1
                        clear H1
                        obtain rfl := Option.some.inj H
                        obtain ⟨Ao69, co69, eo69⟩ := Kd.N_slice HO_6.out
                        subst eo69
                        have hcz70_0 : wr.cell? ⟨gb228, 0, none⟩ = some (.bool a1_0) := (blk_cell BK228.out 0).trans rfl
                        have hcz70_1 : wr.cell? ⟨gb228, 1, none⟩ = some (.slice A1_1 l1_1.length c1_1) := (blk_cell BK228.out 1).trans rfl
                        have hfz70_0 := blk_frozen BK228.out 0
                        have hfz70_1 := blk_frozen BK228.out 1
                        go_wp2_with (first | ((with_reducible refine gate_callee (f := 16) rfl ?_); refine goesL_ (some 74) rfl rfl Try.func16 (by kernel_rfl) rfl #[.agg #[.bool a1_0, .slice A1_1 l1_1.length c1_1]] rfl (by (try simp only [List.map_toArray, List.map_cons, List.map_nil]); first | done | rfl | (simp only [List.length_drop, List.length_take]; rfl)) ?_; (with_reducible refine (names_Not.calls a1_0 _ _ l1_1 t251 t252 _ ?side1 ?side2 A54.out).mono ?_); (case side1 => repeat (first | exact (Kd.C_below HR1_1.out HB.out) | (with_reducible refine cA_ ?_ _) | (with_reducible refine cN_ ?_ _) | (with_reducible refine cD_ ?_))); (case side2 => exact HC1_1.out); rintro e w71 ⟨v253, rfl, ho0, hb⟩; refine ⟨_, rfl, ?_⟩; have n0_ := Aside0.mk (Kd.N_elder' (by (with_reducible repeat (first | apply nA_ | apply nN_ | apply nD_)); exact HO_5.out) (Kd.R_base ho0) hb); have n1_ := Aside0.mk (Kd.N_elder' (by (with_reducible repeat (first | apply nA_ | apply nN_ | apply nD_)); exact HO_6.out) (Kd.R_base ho0) hb); have n2_ := Aside0.mk (Kd.N_elder' (by (with_reducible repeat (first | apply nA_ | apply nN_ | apply nD_)); exact HO_7.out) (Kd.R_base ho0) hb); have n3_ := Aside0.mk (Kd.R_lower ho0 (below_size (by repeat (first | (with_reducible first | exact HB.out | apply bA_ | apply bN_ | apply bD_ | refine below_set ?_ GE228.out) | exact HB.out)))); have n4_ := Aside0.mk (blk_below (g := gb228) (o := .cells #[.bool a1_0, .slice A1_1 l1_1.length c1_1] 25 (0, 0)) (by (with_reducible repeat (first | refine blk_drewN ?_ _ | refine blk_drew ?_ | refine blk_alloc ?_ _)); exact BK228.out) hb); have n5_ := Aside0.mk (below_step (by repeat (first | (with_reducible first | exact HB.out | apply bA_ | apply bN_ | apply bD_ | refine below_set ?_ GE228.out) | exact HB.out)) hb); clear HO_5; clear HO_6; clear HO_7; clear BK228; clear HB; have HO_5 := n0_; have HO_6 := n1_; have HO_7 := n2_; have HO254 := n3_; have BK228 := n4_; have HB := n5_; clear n0_ n1_ n2_ n3_ n4_ n5_; (try clear hb); (try clear hb2); (try clear hk); (try clear hi); (try clear ho0); obtain ⟨Ao72, co72, eo72⟩ := Kd.R_slice HO254.out; subst eo72) | ((with_reducible refine gate_callee (f := 12) rfl ?_); refine goesL_ (some 75) rfl rfl Try.func12 (by kernel_rfl) rfl #[.slice Ao20 t232.length co20, .agg #[.bool t251, .slice Ao72 t252.length co72]] rfl (by (try simp only [List.map_toArray, List.map_cons, List.map_nil]); first | done | rfl | (simp only [List.length_drop, List.length_take]; rfl)) ?_; (with_reducible refine (names_Of.calls k3 _ _ t232 t251 _ _ t252 t255 t258 _ ?side1 ?side2 ?side3 ?side4 A55.out).mono ?_); (case side1 => repeat (first | exact (Kd.N_reads' HO_5.out).2.2 | (with_reducible refine cA_ ?_ _) | (with_reducible refine cN_ ?_ _) | (with_reducible refine cD_ ?_))); (case side2 => exact (Kd.N_reads' HO_5.out).2.1); (case side3 => repeat (first | exact (Kd.R_reads' HO254.out).2.2 | (with_reducible refine cA_ ?_ _) | (with_reducible refine cN_ ?_ _) | (with_reducible refine cD_ ?_))); (case side4 => exact (Kd.R_reads' HO254.out).2.1); rintro e w73 ⟨v256, v259, rfl, ho0, ho1, hb⟩; refine ⟨_, rfl, ?_⟩; have n0_ := Aside0.mk (Kd.N_mono (Kd.N_told (Kd.N_told (Kd.N_old (by (with_reducible repeat (first | apply nA_ | apply nN_ | apply nD_)); exact HO_5.out) hb) (Kd.N_base ho0)) (Kd.N_base ho1)) (fun _ h_ => h_.1)); have n1_ := Aside0.mk (Kd.N_mono (Kd.N_told (Kd.N_told (Kd.N_old (by (with_reducible repeat (first | apply nA_ | apply nN_ | apply nD_)); exact HO_6.out) hb) (Kd.N_base ho0)) (Kd.N_base ho1)) (fun _ h_ => h_.1)); have n2_ := Aside0.mk (Kd.N_mono (Kd.N_told (Kd.N_told (Kd.N_old (by (with_reducible repeat (first | apply nA_ | apply nN_ | apply nD_)); exact HO_7.out) hb) (Kd.N_base ho0)) (Kd.N_base ho1)) (fun _ h_ => h_.1)); have n3_ := Aside0.mk (Kd.R_below (by (with_reducible repeat (first | apply rA_ | apply rN_ | apply rD_)); exact HO254.out) hb); have n4_ := Aside0.mk (Kd.N_lower (Kd.N_mono (ok' := fun k_ => some k_ ≠ (v259 : Value).ownBlock ∧ some k_ ≠ (.slice Ao20 t232.length co20 : Value).ownBlock ∧ some k_ ≠ (.slice Ao69 t235.length co69 : Value).ownBlock ∧ some k_ ≠ (v239 : Value).ownBlock ∧ some k_ ≠ (.slice Ao72 t252.length co72 : Value).ownBlock ∧ k_ ≠ gb228) ho0 (fun k_ hk_ => ⟨hk_.2, (Kd.fresh' (Kd.N_lt (by (with_reducible repeat (first | apply nA_ | apply nN_ | apply nD_)); exact HO_5.out)) k_ hk_.1), (Kd.fresh' (Kd.N_lt (by (with_reducible repeat (first | apply nA_ | apply nN_ | apply nD_)); exact HO_6.out)) k_ hk_.1), (Kd.fresh' (Kd.N_lt (by (with_reducible repeat (first | apply nA_ | apply nN_ | apply nD_)); exact HO_7.out)) k_ hk_.1), (Kd.fresh' (Kd.R_lt (by (with_reducible repeat (first | apply rA_ | apply rN_ | apply rD_)); exact HO254.out)) k_ hk_.1), (Kd.freshB (g := gb228) (o := .cells #[.bool a1_0, .slice A1_1 l1_1.length c1_1] 25 (0, 0)) (by (with_reducible repeat (first | refine blk_drewN ?_ _ | refine blk_drew ?_ | refine blk_alloc ?_ _)); exact BK228.out) k_ hk_.1)⟩)) (below_size (by repeat (first | (with_reducible first | exact HB.out | apply bA_ | apply bN_ | apply bD_ | refine below_set ?_ GE228.out) | exact HB.out)))); have n5_ := Aside0.mk (Kd.N_lower (Kd.N_mono (ok' := fun k_ => some k_ ≠ (v256 : Value).ownBlock ∧ some k_ ≠ (.slice Ao20 t232.length co20 : Value).ownBlock ∧ some k_ ≠ (.slice Ao69 t235.length co69 : Value).ownBlock ∧ some k_ ≠ (v239 : Value).ownBlock ∧ some k_ ≠ (.slice Ao72 t252.length co72 : Value).ownBlock ∧ k_ ≠ gb228) ho1 (fun k_ hk_ => ⟨hk_.2, (Kd.fresh' (Kd.N_lt (by (with_reducible repeat (first | apply nA_ | apply nN_ | apply nD_)); exact HO_5.out)) k_ hk_.1), (Kd.fresh' (Kd.N_lt (by (with_reducible repeat (first | apply nA_ | apply nN_ | apply nD_)); exact HO_6.out)) k_ hk_.1), (Kd.fresh' (Kd.N_lt (by (with_reducible repeat (first | apply nA_ | apply nN_ | apply nD_)); exact HO_7.out)) k_ hk_.1), (Kd.fresh' (Kd.R_lt (by (with_reducible repeat (first | apply rA_ | apply rN_ | apply rD_)); exact HO254.out)) k_ hk_.1), (Kd.freshB (g := gb228) (o := .cells #[.bool a1_0, .slice A1_1 l1_1.length c1_1] 25 (0, 0)) (by (with_reducible repeat (first | refine blk_drewN ?_ _ | refine blk_drew ?_ | refine blk_alloc ?_ _)); exact BK228.out) k_ hk_.1)⟩)) (below_size (by repeat (first | (with_reducible first | exact HB.out | apply bA_ | apply bN_ | apply bD_ | refine below_set ?_ GE228.out) | exact HB.out)))); have n6_ := Aside0.mk (blk_below (g := gb228) (o := .cells #[.bool a1_0, .slice A1_1 l1_1.length c1_1] 25 (0, 0)) (by (with_reducible repeat (first | refine blk_drewN ?_ _ | refine blk_drew ?_ | refine blk_alloc ?_ _)); exact BK228.out) hb); have n7_ := Aside0.mk (below_step (by repeat (first | (with_reducible first | exact HB.out | apply bA_ | apply bN_ | apply bD_ | refine below_set ?_ GE228.out) | exact HB.out)) hb); clear HO_5; clear HO_6; clear HO_7; clear HO254; clear BK228; clear HB; have HO_5 := n0_; have HO_6 := n1_; have HO_7 := n2_; have HO254 := n3_; have HO257 := n4_; have HO260 := n5_; have BK228 := n6_; have HB := n7_; clear n0_ n1_ n2_ n3_ n4_ n5_ n6_ n7_; (try clear hb); (try clear hb2); (try clear hk); (try clear hi); (try clear ho0); (try clear ho1); obtain ⟨Ao74, co74, eo74⟩ := Kd.N_slice HO257.out; subst eo74; obtain ⟨Ao75, co75, eo75⟩ := Kd.N_slice HO_7.out; subst eo75) | ((with_reducible refine gate_callee (f := 14) rfl ?_); refine goesL_ (some 80) rfl rfl Try.func14 (by kernel_rfl) rfl #[.slice Ao74 t255.length co74, .slice Ao75 t238.length co75] rfl (by (try simp only [List.map_toArray, List.map_cons, List.map_nil]); first | done | rfl | (simp only [List.length_drop, List.length_take]; rfl)) ?_; (with_reducible refine (cadenceref2_Same.calls k3 _ _ t255 _ _ t238 false _ ?side1 ?side2 ?side3 ?side4 A56.out).mono ?_); (case side1 => repeat (first | exact (Kd.N_reads' HO257.out).2.2 | (with_reducible refine cA_ ?_ _) | (with_reducible refine cN_ ?_ _) | (with_reducible refine cD_ ?_))); (case side2 => exact (Kd.N_reads' HO257.out).2.1); (case side3 => repeat (first | exact (Kd.N_reads' HO_7.out).2.2 | (with_reducible refine cA_ ?_ _) | (with_reducible refine cN_ ?_ _) | (with_reducible refine cD_ ?_))); (case side4 => exact (Kd.N_reads' HO_7.out).2.1); rintro e w76 ⟨rfl, hb⟩; refine ⟨_, rfl, ?_⟩; have n0_ := Aside0.mk (Kd.N_below (by (with_reducible repeat (first | apply nA_ | apply nN_ | apply nD_)); exact HO_5.out) hb); have n1_ := Aside0.mk (Kd.N_below (by (with_reducible repeat (first | apply nA_ | apply nN_ | apply nD_)); exact HO_6.out) hb); have n2_ := Aside0.mk (Kd.N_below (by (with_reducible repeat (first | apply nA_ | apply nN_ | apply nD_)); exact HO_7.out) hb); have n3_ := Aside0.mk (Kd.R_below (by (with_reducible repeat (first | apply rA_ | apply rN_ | apply rD_)); exact HO254.out) hb); have n4_ := Aside0.mk (Kd.N_below (by (with_reducible repeat (first | apply nA_ | apply nN_ | apply nD_)); exact HO257.out) hb); have n5_ := Aside0.mk (Kd.N_below (by (with_reducible repeat (first | apply nA_ | apply nN_ | apply nD_)); exact HO260.out) hb); have n6_ := Aside0.mk (blk_below (g := gb228) (o := .cells #[.bool a1_0, .slice A1_1 l1_1.length c1_1] 25 (0, 0)) (by (with_reducible repeat (first | refine blk_drewN ?_ _ | refine blk_drew ?_ | refine blk_alloc ?_ _)); exact BK228.out) hb); have n7_ := Aside0.mk (below_step (by repeat (first | (with_reducible first | exact HB.out | apply bA_ | apply bN_ | apply bD_ | refine below_set ?_ GE228.out) | exact HB.out)) hb); clear HO_5; clear HO_6; clear HO_7; clear HO254; clear HO257; clear HO260; clear BK228; clear HB; have HO_5 := n0_; have HO_6 := n1_; have HO_7 := n2_; have HO254 := n3_; have HO257 := n4_; have HO260 := n5_; have BK228 := n6_; have HB := n7_; clear n0_ n1_ n2_ n3_ n4_ n5_ n6_ n7_; (try clear hb); (try clear hb2); (try clear hk); (try clear hi)))
                        go_ret
                        exact ⟨by first | rfl | (simp [errW_none, errW_some] <;> rfl) | (simp [*, errW_none, errW_some] <;> rfl), by repeat (first | (with_reducible first | exact HB.out | apply bA_ | apply bN_ | apply bD_ | refine below_set ?_ GE228.out) | exact HB.out)⟩
  · replace c4 := Bool.eq_false_iff.mpr c4
    subst c4
    have H1 : (some false) = some r := by rw [if_neg (show ¬ (false = true) by decide)] at H; exact H
    clear H
    have H := H1
    clear H1
    obtain rfl := Option.some.inj H
    go_enter Try.func3, Try.ntmps3
    go_wp2_with (first | ((with_reducible refine gate_dst (N := 3) rfl ?_); (try (refine gate_guard (by rfl) ?_; dsimp only)); refine box_event ?hg (N := 3) ?hd (cs := #[.bool a1_0, .slice A1_1 l1_1.length c1_1]) (t := 25) ?hr ?_; (case hd => rfl); (case hg => rfl); (case hr => first | (go_simp; done) | (go_simp; rfl)); intro gb228 hg w77 hbox hb; have n0_ := Aside0.mk (below_step (by repeat (first | (with_reducible first | exact HB.out | apply bA_ | apply bN_ | apply bD_) | exact HB.out)) hb); have n1_ := Aside0.mk (hbox); have n2_ := Aside0.mk ((by rw [hg]; exact (below_size (by repeat (first | (with_reducible first | exact HB.out | apply bA_ | apply bN_ | apply bD_) | exact HB.out))) : w.heap.size ≤ gb228)); have n3_ := Aside0.mk ((by rw [hg]; exact (below_size (by repeat (first | (with_reducible first | exact HB.out | apply bA_ | apply bN_ | apply bD_) | exact HB.out))) : w.heap.size ≤ gb228)); clear HB; have HB := n0_; have BK228 := n1_; have GW228 := n2_; have GE228 := n3_; clear n0_ n1_ n2_ n3_; clear hb hbox hg) | ((with_reducible refine gate_callee (f := 8) rfl ?_); refine goesL_ (some 13) rfl rfl Try.func8 (by kernel_rfl) rfl #[] rfl (by (try simp only [List.map_toArray, List.map_cons, List.map_nil]); first | done | rfl | (simp only [List.length_drop, List.length_take]; rfl)) ?_; (with_reducible refine (cadencelaw3_known.calls  false _ A3.out).mono ?_); rintro e w78 ⟨rfl, hb⟩; refine ⟨_, rfl, ?_⟩; have n0_ := Aside0.mk (blk_below (g := gb228) (o := .cells #[.bool a1_0, .slice A1_1 l1_1.length c1_1] 25 (0, 0)) (by (with_reducible repeat (first | refine blk_drewN ?_ _ | refine blk_drew ?_ | refine blk_alloc ?_ _)); exact BK228.out) hb); have n1_ := Aside0.mk (below_step (by repeat (first | (with_reducible first | exact HB.out | apply bA_ | apply bN_ | apply bD_ | refine below_set ?_ GE228.out) | exact HB.out)) hb); clear BK228; clear HB; have BK228 := n0_; have HB := n1_; clear n0_ n1_; (try clear hb); (try clear hb2); (try clear hk); (try clear hi)))
    go_ret
    exact ⟨by first | rfl | (simp [errW_none, errW_some] <;> rfl) | (simp [*, errW_none, errW_some] <;> rfl), by repeat (first | (with_reducible first | exact HB.out | apply bA_ | apply bN_ | apply bD_ | refine below_set ?_ GE228.out) | exact HB.out)⟩

end Go.Proofs.Ytbjkfllghkcgcaa.PX
/- NamesOf: what its printed function comes to. -/
set_option linter.unusedVariables false
namespace Go.Proofs.Ytbjkfllghkcgcaa.PX
open Go.RowKit Go.Proofs.YtbjkfllghkcgcaaW.PrintWords Go.Proofs.YtbjkfllghkcgcaaW.PrintLast Go.Proofs.YtbjkfllghkcgcaaW.PrintMore Go.Proofs.Ytbjkfllghkcgcaa
theorem toList_iff (a b : ByteArray) : a.toList = b.toList ↔ a = b := by
  rw [toList_tl, toList_tl]
  exact ⟨tl_inj, fun h => by rw [h]⟩
noncomputable instance (s : ByteArray) (l : List ByteArray) : Decidable (s ∈ l) := Classical.propDecidable _
/-- Is a name in a set? -/
noncomputable def hasN (a : Bool) (l : List ByteArray) (s : ByteArray) : Bool := decide (s ∈ l) != a
theorem index_ev (l : List ByteArray) (s : ByteArray) (hl : l.length ≤ 1000000000000) : ∃ r : Int, decide (r ≥ 0) = decide (s ∈ l) ∧ Ev (fun k => slices_Index_string_string.f k l s) r := by
  have loop : ∀ (m i : Nat), i + m = l.length → ∃ r : Int, decide (r ≥ 0) = decide (s ∈ l.drop i) ∧ Ev (fun k => slices_Index_string_string.l0 k l s (l.length : Int) (i : Int)) r := by
    intro m
    induction m with
    | zero =>
      intro i hi
      refine ⟨-1, ?_, Ev.step (f := fun _ => some (-1)) (fun k => ?_) (Ev.now _)⟩
      · rw [show l.drop i = [] from List.drop_eq_nil_of_le (by omega)]
        simp
      · simp only [slices_Index_string_string.l0]
        rw [if_neg (by omega)]
    | succ m ih =>
      intro i hi
      have hil : i < l.length := by omega
      rw [List.drop_eq_getElem_cons hil]
      by_cases e : s = l[i]
      · refine ⟨(i : Int), ?_, Ev.step (f := fun _ => some (i : Int)) (fun k => ?_) (Ev.now _)⟩
        · rw [decide_eq_true (by omega), decide_eq_true (by rw [e]; exact List.mem_cons_self)]
        · simp only [slices_Index_string_string.l0]
          rw [if_pos (by omega), if_pos (by omega), if_pos (by omega), rdOf_nat hil, if_pos (by rw [e])]
      · obtain ⟨r, h1, h2⟩ := ih (i + 1) (by omega)
        refine ⟨r, ?_, Ev.step (f := fun k => slices_Index_string_string.l0 k l s (l.length : Int) ((i + 1 : Nat) : Int)) (fun k => ?_) h2⟩
        · rw [h1]
          simp only [List.mem_cons, e, false_or]
        · simp only [slices_Index_string_string.l0]
          rw [if_pos (by omega), if_pos (by omega), if_pos (by omega), rdOf_nat hil, if_neg (fun h => e ((toList_iff _ _).1 h)), wrap_succ (by omega)]
  obtain ⟨r, h1, h2⟩ := loop l.length 0 (by omega)
  exact ⟨r, h1, h2⟩
theorem has_ev (a : Bool) (l : List ByteArray) (s : ByteArray) (hl : l.length ≤ 1000000000000) : Ev (fun k => names_Has.f k a l s) (hasN a l s) := by
  obtain ⟨r, h1, h2⟩ := index_ev l s hl
  unfold hasN
  rw [← h1]
  exact Ev.bind (Ev.bind h2 (Ev.now _)) (Ev.now _)
theorem refHas_ev (a : Bool) (l : List ByteArray) (s : ByteArray) (hl : l.length ≤ 1000000000000) : Ev (fun k => cadenceref3_Has.f k a l s) (hasN a l s) := by
  have loop : ∀ (m i : Nat), i + m = l.length → Ev (fun k => cadenceref3_in.l0 k l s (i : Int)) (decide (s ∈ l.drop i)) := by
    intro m
    induction m with
    | zero =>
      intro i hi
      rw [show l.drop i = [] from List.drop_eq_nil_of_le (by omega), decide_eq_false (by simp)]
      refine Ev.step (f := fun _ => some false) (fun k => ?_) (Ev.now _)
      simp only [cadenceref3_in.l0]
      rw [if_neg (by omega)]
    | succ m ih =>
      intro i hi
      have hil : i < l.length := by omega
      rw [List.drop_eq_getElem_cons hil]
      by_cases e : l[i] = s
      · rw [decide_eq_true (by rw [e]; exact List.mem_cons_self)]
        refine Ev.step (f := fun _ => some true) (fun k => ?_) (Ev.now _)
        simp only [cadenceref3_in.l0]
        rw [if_pos (by omega), if_pos (by omega), rdOf_nat hil, if_pos (by rw [e])]
      · have h1 : decide (s ∈ l[i] :: l.drop (i + 1)) = decide (s ∈ l.drop (i + 1)) := by
          rw [Bool.eq_iff_iff]
          simp only [decide_eq_true_eq, List.mem_cons]
          exact ⟨fun h => h.resolve_left (fun h => e h.symm), .inr⟩
        rw [h1]
        refine Ev.step (f := fun k => cadenceref3_in.l0 k l s ((i + 1 : Nat) : Int)) (fun k => ?_) (ih (i + 1) (by omega))
        simp only [cadenceref3_in.l0]
        rw [if_pos (by omega), if_pos (by omega), rdOf_nat hil, if_neg (fun h => e ((toList_iff _ _).1 h)), wrap_succ (by omega)]
  exact Ev.bind (loop l.length 0 (by omega)) (Ev.now _)
theorem not_eq (a : Bool) (l : List ByteArray) (hl : l.length ≤ 1000000000) : names_Not.f a l = some (!a, (ofL (l.map tl)).map ba) := by
  have h1 : ∀ x : List ByteArray, x.length ≤ 1000000000 → slices_Clone_string_string.f x = some x := by
    intro x hx
    unfold slices_Clone_string_string.f
    rw [Option.bind_some, List.length_nil, if_pos (by omega), List.nil_append]
  have h2 : slices_Sort_string_string.f l = some (sortB l) := by unfold slices_Sort_string_string.f; rw [if_pos (by omega)]
  have h3 : slices_Compact_string_string.f (sortB l) = some ((ofL (l.map tl)).map ba) := by
    unfold slices_Compact_string_string.f
    rw [if_pos (by rw [sortB_length]; omega)]
    unfold compactB sortB ofL
    rw [map_tl_ba]
  have h4 := ofL_length_le (l.map tl)
  rw [List.length_map] at h4
  unfold names_Not.f names_of_string.f
  rw [h1 l (by omega), Option.bind_some, h2, Option.bind_some, h3, Option.bind_some, h1 _ (by rw [List.length_map]; omega), Option.bind_some, Option.bind_some]
theorem hasN_not (a : Bool) (l : List ByteArray) (s : ByteArray) : hasN (!a) ((ofL (l.map tl)).map ba) s = !hasN a l s := by
  have : (s ∈ (ofL (l.map tl)).map ba) ↔ s ∈ l := by
    rw [List.mem_map]
    constructor
    · rintro ⟨x, hx, rfl⟩
      obtain ⟨y, hy, rfl⟩ := List.mem_map.1 (ofL_mem.1 hx)
      rwa [ba_tl]
    · intro h
      exact ⟨tl s, ofL_mem.2 (List.mem_map.2 ⟨s, h, rfl⟩), ba_tl s⟩
  unfold hasN
  simp only [this]
  cases decide (s ∈ l) <;> cases a <;> rfl
theorem Ok.filter {W d : Nat} {t : Tr} (p : Edge → Bool) (h : Ok W d t) : Ok W d (t.filter p) := by
  cases d with
  | zero => rw [show t = [] from h]; rfl
  | succ d => exact ⟨Nat.le_trans (List.length_filter_le _ _) h.1, List.Pairwise.filter _ h.2.1, fun x hx => h.2.2 x (List.mem_filter.1 hx).1⟩
theorem own3_ev {W : Nat} (hW : W ≤ 1000000) : ∀ {d : Nat} {t : Tr}, Ok W d t → Ev (fun k => names_own.f k t) t := by
  intro d
  induction d with
  | zero =>
    intro t ht
    rw [show t = [] from ht]
    refine Ev.step (f := fun k => names_own.l0 k [] [] 0 0) (fun k => by simp only [names_own.f]; rfl) (Ev.step (f := fun _ => some []) (fun k => by simp only [names_own.l0]; rw [if_neg (by omega)]) (Ev.now _))
  | succ d ih =>
    intro t ht
    have hl := ht.length
    have loop : ∀ (m i : Nat) (x : Tr), i + m = t.length → x.length = t.length → (∀ j, j < i → x[j]? = t[j]?) → Ev (fun k => names_own.l0 k x t (t.length : Int) (i : Int)) t := by
      intro m
      induction m with
      | zero =>
        intro i x hi hx hj
        have hxt : x = t := by
          refine List.ext_getElem? fun j => ?_
          rcases Nat.lt_or_ge j i with h | h
          · exact hj j h
          · rw [List.getElem?_eq_none (by omega), List.getElem?_eq_none (by omega)]
        subst hxt
        exact Ev.step (f := fun _ => some x) (fun k => by simp only [names_own.l0]; rw [if_neg (by omega)]) (Ev.now _)
      | succ m ihm =>
        intro i x hi hx hj
        have hil : i < t.length := by omega
        have e : ∀ k, names_own.l0 (k + 1) x t (t.length : Int) (i : Int) = (names_own.f k t[i].f1).bind fun q => names_own.l0 k (x.set i ⟨t[i].f0, q⟩) t (t.length : Int) ((i + 1 : Nat) : Int) := fun k => by
          simp only [names_own.l0]
          rw [if_pos (by omega), if_pos (by omega), if_pos (by omega), rdT_nat hil, wrap_succ (by omega)]
          congr 1
          funext q
          rw [if_pos (by omega), Int.toNat_natCast]
        refine Ev.step e (Ev.bind (ih (ht.2.2 _ (List.getElem_mem hil))) (ihm (i + 1) _ (by omega) (by simpa using hx) fun j hji => ?_))
        rw [List.getElem?_set]
        split
        · rename_i hij
          subst hij
          rw [if_pos (by omega), List.getElem?_eq_getElem hil]
          cases t[i]; rfl
        · exact hj j (by omega)
    refine Ev.step (f := fun k => names_own.l0 k (List.replicate t.length z37) t (t.length : Int) 0) (fun k => ?_) (loop t.length 0 _ (by omega) (by simp) (fun j h => absurd h (Nat.not_lt_zero _)))
    simp only [names_own.f]
    rw [if_pos (by omega), if_pos (by omega)]
    rfl
theorem eta (x : Edge) : (⟨x.f0, x.f1⟩ : Edge) = x := by cases x; rfl
theorem take_filter (t : Tr) (p : Edge → Bool) (i : Nat) (h : i < t.length) : (t.take (i + 1)).filter p = (t.take i).filter p ++ (if p t[i] then [t[i]] else []) := by
  rw [List.take_succ_eq_append_getElem h, List.filter_append]
  cases h : p t[i] <;> simp [h]
theorem of_ev {W d : Nat} (hW : W ≤ 1000000) (a : Bool) (l : List ByteArray) (hl : l.length ≤ 1000000000) {t : Tr} (ht : Ok W d t) : Ev (fun k => names_Of.f k t a l) (t.filter (fun x => hasN a l x.f0), t.filter (fun x => !hasN a l x.f0)) := by
  have htl := ht.length
  have hc : ∀ x : Tr, x.length ≤ 1000000 → api_Edge.f x = some x := by
    intro x hx
    unfold api_Edge.f
    rw [Option.bind_some, List.length_nil, if_pos (by omega), List.nil_append]
  have loop : ∀ (m i : Nat), i + m = t.length → Ev (fun k => names_Of.l0 k ((t.take i).filter (fun x => hasN a l x.f0)) ((t.take i).filter (fun x => !hasN a l x.f0)) t (t.length : Int) (i : Int) a l) (t.filter (fun x => hasN a l x.f0), t.filter (fun x => !hasN a l x.f0)) := by
    intro m
    induction m with
    | zero =>
      intro i hi
      rw [List.take_of_length_le (by omega)]
      refine Ev.step (f := fun _ => some (t.filter (fun x => hasN a l x.f0), t.filter (fun x => !hasN a l x.f0))) (fun k => ?_) (Ev.now _)
      simp only [names_Of.l0]
      rw [if_neg (by omega), hc _ (Nat.le_trans (List.length_filter_le _ _) (Nat.le_trans htl hW)), Option.bind_some, hc _ (Nat.le_trans (List.length_filter_le _ _) (Nat.le_trans htl hW)), Option.bind_some]
    | succ m ih =>
      intro i hi
      have hil : i < t.length := by omega
      have n1 := take_filter t (fun x => hasN a l x.f0) i hil
      have n2 := take_filter t (fun x => !hasN a l x.f0) i hil
      have f1 := List.length_filter_le (fun x : Edge => hasN a l x.f0) (t.take i)
      have f2 := List.length_filter_le (fun x : Edge => !hasN a l x.f0) (t.take i)
      rw [List.length_take] at f1 f2
      have h0 := ih (i + 1) (by omega)
      obtain ⟨K1, h1⟩ := has_ev a l t[i].f0 (by omega)
      obtain ⟨K2, h2⟩ := h0
      refine ⟨K1 + K2 + 1, fun k hk => ?_⟩
      obtain ⟨k, rfl⟩ : ∃ m, k = m + 1 := ⟨k - 1, by omega⟩
      replace h1 : names_Has.f k a l t[i].f0 = some (hasN a l t[i].f0) := h1 k (by omega)
      replace h2 : names_Of.l0 k ((t.take (i + 1)).filter (fun x => hasN a l x.f0)) ((t.take (i + 1)).filter (fun x => !hasN a l x.f0)) t (t.length : Int) ((i + 1 : Nat) : Int) a l = _ := h2 k (by omega)
      rw [n1, n2] at h2
      show names_Of.l0 (k + 1) _ _ t (t.length : Int) (i : Int) a l = _
      simp only [names_Of.l0]
      rw [if_pos (by omega), if_pos (by omega), if_pos (by omega), rdT_nat hil, h1, Option.bind_some, eta, wrap_succ (by omega)]
      cases hh : hasN a l t[i].f0 with
      | true =>
        simp only [hh, if_true, Bool.not_true, Bool.false_eq_true, if_false, List.append_nil] at h2
        rw [if_pos rfl, if_pos (Nat.lt_of_le_of_lt f1 (by omega))]
        exact h2
      | false =>
        simp only [hh, if_true, Bool.not_false, Bool.false_eq_true, if_false, List.append_nil] at h2
        rw [if_neg Bool.false_ne_true, if_pos (Nat.lt_of_le_of_lt f2 (by omega))]
        exact h2
  exact Ev.bind (own3_ev hW ht) (loop t.length 0 (by omega))
theorem refOf_ev {W d : Nat} (hW : W ≤ 1000000) (a : Bool) (l : List ByteArray) (hl : l.length ≤ 1000000000) {t : Tr} (ht : Ok W d t) : Ev (fun k => cadenceref3_Of.f k t a l) (t.filter (fun x => hasN a l x.f0), t.filter (fun x => !hasN a l x.f0)) := by
  have htl := ht.length
  have loop : ∀ (m i : Nat), i + m = t.length → Ev (fun k => cadenceref3_Of.l0 k t ((t.take i).filter (fun x => hasN a l x.f0)) ((t.take i).filter (fun x => !hasN a l x.f0)) (i : Int) a l) (t.filter (fun x => hasN a l x.f0), t.filter (fun x => !hasN a l x.f0)) := by
    intro m
    induction m with
    | zero =>
      intro i hi
      rw [List.take_of_length_le (by omega)]
      refine Ev.step (f := fun _ => some (t.filter (fun x => hasN a l x.f0), t.filter (fun x => !hasN a l x.f0))) (fun k => ?_) (Ev.now _)
      simp only [cadenceref3_Of.l0]
      rw [if_neg (by omega)]
    | succ m ih =>
      intro i hi
      have hil : i < t.length := by omega
      have n1 := take_filter t (fun x => hasN a l x.f0) i hil
      have n2 := take_filter t (fun x => !hasN a l x.f0) i hil
      have f1 := List.length_filter_le (fun x : Edge => hasN a l x.f0) (t.take i)
      have f2 := List.length_filter_le (fun x : Edge => !hasN a l x.f0) (t.take i)
      rw [List.length_take] at f1 f2
      have h0 := ih (i + 1) (by omega)
      obtain ⟨K1, h1⟩ := refHas_ev a l t[i].f0 (by omega)
      obtain ⟨K2, h2⟩ := h0
      refine ⟨K1 + K2 + 1, fun k hk => ?_⟩
      obtain ⟨k, rfl⟩ : ∃ m, k = m + 1 := ⟨k - 1, by omega⟩
      replace h1 : cadenceref3_Has.f k a l t[i].f0 = some (hasN a l t[i].f0) := h1 k (by omega)
      replace h2 : cadenceref3_Of.l0 k t ((t.take (i + 1)).filter (fun x => hasN a l x.f0)) ((t.take (i + 1)).filter (fun x => !hasN a l x.f0)) ((i + 1 : Nat) : Int) a l = _ := h2 k (by omega)
      rw [n1, n2] at h2
      show cadenceref3_Of.l0 (k + 1) t _ _ (i : Int) a l = _
      simp only [cadenceref3_Of.l0]
      rw [if_pos (by omega), if_pos (by omega), rdT_nat hil, h1, Option.bind_some, eta, wrap_succ (by omega)]
      cases hh : hasN a l t[i].f0 with
      | true =>
        simp only [hh, if_true, Bool.not_true, Bool.false_eq_true, if_false, List.append_nil] at h2
        rw [if_pos rfl, if_pos (Nat.lt_of_le_of_lt f1 (by omega))]
        exact h2
      | false =>
        simp only [hh, if_true, Bool.not_false, Bool.false_eq_true, if_false, List.append_nil] at h2
        rw [if_neg Bool.false_ne_true, if_pos (Nat.lt_of_le_of_lt f2 (by omega))]
        exact h2
  exact loop t.length 0 (by omega)
theorem filter_len (t : Tr) (p : Edge → Bool) : (t.filter p).length + (t.filter (fun x => !p x)).length = t.length := by
  induction t with
  | nil => rfl
  | cons x t ih => cases h : p x <;> simp [h] <;> omega
theorem namesOf_ev (l : List Raw) (hl : RawOk l) (a : Bool) (n : List ByteArray) : Ev (fun k => cadencelaw3_NamesOf.f k l a n) true := by
  obtain ⟨b0, _, e0⟩ := few_ev hl
  have out : Ev (fun k => cadencelaw3_NamesOf.j0 k l true a n) true := by
    refine Ev.step (f := fun _ => some true) (fun k => ?_) (Ev.now _)
    simp only [cadencelaw3_NamesOf.j0]
    rw [if_pos trivial]
  have hk : cadencelaw3_known.f = some true := by unfold cadencelaw3_known.f; rw [not_eq _ _ (by simp), Option.bind_some]; rfl
  refine Ev.congr (f := fun k => (cadencelaw2_Few.f k l).bind fun u => (if u = true then cadencelaw3_NamesOf.j0 k l (!decide ((n.length : Int) ≤ 25)) a n else cadencelaw3_NamesOf.j0 k l true a n)) (fun k => by unfold cadencelaw3_NamesOf.f; rw [hk, Option.bind_some, if_pos rfl]; rfl) (Ev.bind e0 ?_)
  cases b0 with
  | false => exact Ev.congr (fun k => if_neg Bool.false_ne_true) out
  | true =>
    refine Ev.congr (fun k => if_pos rfl) ?_
    by_cases hn : n.length ≤ 25
    · rw [decide_eq_true (by omega)]
      obtain ⟨t, ht, et⟩ := make_ev hl 10 3 (by omega) (by omega)
      have htl := ht.length
      have p1 := of_ev (by omega) a n (by omega) ht
      have p2 := refOf_ev (by omega) a n (by omega) ht
      have hnl := ofL_length_le (n.map tl)
      rw [List.length_map] at hnl
      have p3 := of_ev (by omega) (!a) ((ofL (n.map tl)).map ba) (by rw [List.length_map]; omega) ht
      simp only [hasN_not, Bool.not_not] at p3
      have hX := ht.filter (fun x => hasN a n x.f0)
      have hY := ht.filter (fun x => !hasN a n x.f0)
      have s1 := same_ev (by omega) hX hX
      have s2 := same_ev (by omega) hY hY
      rw [decide_eq_true rfl] at s1 s2
      have hlen := filter_len t (fun x => hasN a n x.f0)
      have hin : ∀ x ∈ t.filter (fun x => hasN a n x.f0), hasN a n x.f0 = true := fun x hx => by simpa using (List.mem_filter.1 hx).2
      generalize t.filter (fun x => hasN a n x.f0) = X at *
      generalize t.filter (fun x => !hasN a n x.f0) = Y at *
      have hXl := hX.length
      have loop : ∀ (m i : Nat), i + m = X.length → Ev (fun k => cadencelaw3_NamesOf.l0 k t X Y (i : Int) a n) true := by
        intro m
        induction m with
        | zero =>
          intro i hi
          obtain ⟨K1, h1⟩ := p3
          obtain ⟨K2, h2⟩ := s1
          obtain ⟨K3, h3⟩ := s2
          refine ⟨K1 + K2 + K3 + 1, fun k hk => ?_⟩
          obtain ⟨k, rfl⟩ : ∃ m, k = m + 1 := ⟨k - 1, by omega⟩
          replace h1 : names_Of.f k t (!a) ((ofL (n.map tl)).map ba) = some (Y, X) := h1 k (by omega)
          replace h2 : cadenceref2_Same.f k X X = some true := h2 k (by omega)
          replace h3 : cadenceref2_Same.f k Y Y = some true := h3 k (by omega)
          show cadencelaw3_NamesOf.l0 (k + 1) t X Y (i : Int) a n = some true
          simp only [cadencelaw3_NamesOf.l0]
          rw [if_neg (by omega), not_eq a n (by omega), Option.bind_some, h1, Option.bind_some, h3, Option.bind_some, if_pos rfl, h2, Option.bind_some]
        | succ m ih =>
          intro i hi
          have hil : i < X.length := by omega
          have hh := has_ev a n X[i].f0 (by omega)
          rw [hin _ (List.getElem_mem hil)] at hh
          refine Ev.step (f := fun k => (names_Has.f k a n X[i].f0).bind fun u => if u = true then cadencelaw3_NamesOf.l0 k t X Y ((i + 1 : Nat) : Int) a n else some false) (fun k => ?_) (Ev.bind hh (Ev.congr (fun k => if_pos rfl) (ih (i + 1) (by omega))))
          simp only [cadencelaw3_NamesOf.l0]
          rw [if_pos (by omega), if_pos (by omega), rdT_nat hil, wrap_succ (by omega)]
      obtain ⟨K1, h1⟩ := et
      obtain ⟨K2, h2⟩ := p1
      obtain ⟨K3, h3⟩ := p2
      obtain ⟨K4, h4⟩ := s1
      obtain ⟨K5, h5⟩ := s2
      obtain ⟨K6, h6⟩ := loop X.length 0 (by omega)
      refine ⟨K1 + K2 + K3 + K4 + K5 + K6 + 2, fun k hk => ?_⟩
      obtain ⟨k, rfl⟩ : ∃ m, k = m + 2 := ⟨k - 2, by omega⟩
      replace h1 : cadencelaw2_Make.f (k + 1) l 10 3 = some t := h1 (k + 1) (by omega)
      replace h2 : names_Of.f (k + 1) t a n = some (X, Y) := h2 (k + 1) (by omega)
      replace h3 : cadenceref3_Of.f (k + 1) t a n = some (X, Y) := h3 (k + 1) (by omega)
      replace h4 : cadenceref2_Same.f (k + 1) X X = some true := h4 (k + 1) (by omega)
      replace h5 : cadenceref2_Same.f (k + 1) Y Y = some true := h5 (k + 1) (by omega)
      replace h6 : cadencelaw3_NamesOf.l0 k t X Y 0 a n = some true := h6 k (by omega)
      show cadencelaw3_NamesOf.j0 (k + 1 + 1) l false a n = some true
      simp only [cadencelaw3_NamesOf.j0]
      rw [if_neg Bool.false_ne_true, h1, Option.bind_some, h2, Option.bind_some, h3, Option.bind_some, h4, Option.bind_some, if_pos rfl, h5, Option.bind_some, if_pos rfl]
      have he : (wrap64 ((X.length : Int) + (Y.length : Int)) != (t.length : Int)) = false := by
        rw [wrap_id (by omega) (by omega), bne_eq_false_iff_eq]
        omega
      simp only [cadencelaw3_NamesOf.j1, he]
      rw [if_neg Bool.false_ne_true, h6]
    · rw [decide_eq_false (by omega)]
      exact out
end Go.Proofs.Ytbjkfllghkcgcaa.PX
/- Rows of strings, sets of names, as they come in. -/
set_option linter.unusedVariables false
set_option linter.unusedSimpArgs false
namespace Go.Proofs.Ytbjkfllghkcgcaa.PX
open Go.RowKit Go.Proofs.YtbjkfllghkcgcaaW.PrintWords Go.Proofs.YtbjkfllghkcgcaaW.PrintLast Go.Proofs.YtbjkfllghkcgcaaW.PrintMore Go.ChangeShapes Go.WideShapes Go.ChangeAt Go.Deep
section
variable {H : Type} {enc : TypeId × Value → H} {w : World}
theorem open_strsC {fuel : Nat} {cs : List Value} {x : DataW H × List MemPlace} (h : DataW.trod enc Try.prog w 0 (fun _ => true) true fuel 23 cs = some x)
    (hw : ∀ n ∈ x.1.weights Try.prog 23, n ≤ reachBytes) :
    ∃ (A : Option Addr) (cap : Nat) (l : List ByteArray), cs = [.slice A l.length cap] ∧ l.length ≤ cap ∧ Kd.C Kd.string w A l.length l ∧ l.length ≤ 8796093022207 := by
  have bS : Try.prog.bytesOf 9 = 16 := by kernel_rfl
  rcases open_strings Try.underlying23 Try.underlying9 (by kernel_rfl) h with ⟨hcs, _⟩ | ⟨a, len, cap, ss, hcs, _, hl, hm, hz, hx, hcell, _⟩
  · exact ⟨none, 0, [], hcs, Nat.le_refl _, Kd.C_nil _ _, by simp⟩
  · simp only [if_true] at hz
    have hx1 : x.1 = .slice (strs (ss.take len)) (strs (ss.drop len)) := congrArg Prod.fst hx
    rw [hx1] at hw
    have hb : len * 16 ≤ reachBytes := by
      have := hw _ (by rw [DataW.weights, Try.underlying23]; simp only [bS]; exact List.mem_cons_self)
      simp only [strs, List.length_map, List.length_take, List.length_drop] at this
      omega
    have htl : (ss.take len).length = len := by rw [List.length_take]; omega
    refine ⟨some a, cap, ss.take len, by rw [htl]; exact hcs, by rw [htl]; exact hl, Kd.C_of_reads (d := ByteArray.empty) (h1 := fun _ => rfl) ⟨rfl, by rw [htl]; unfold maxLen at hm; omega, fun hp => ⟨a, rfl, fun j hj => ?_⟩⟩, by rw [htl]; unfold reachBytes at hb; omega⟩
    rw [htl] at hj
    rw [hcell j (by omega)]
    simp [List.getD_eq_getElem?_getD, List.getElem?_take, hj]
theorem open_strK {v : Value} {d : DataW H} {p : List MemPlace} {ts : List TypeId} {ds : List (DataW H)} {j : Nat} (hv : ∃ A len cap, v = .slice A len cap) (h : DataW.Trod enc Try.prog w 0 (fun _ => true) true 23 v d p)
    (hsz : (DataW.weightsEach Try.prog ts ds).all (· ≤ reachBytes) = true) (ht : ts[j]? = some 23) (hd : ds[j]? = some d) :
    ∃ (A : Option Addr) (cap : Nat) (l : List ByteArray), v = .slice A l.length cap ∧ l.length ≤ cap ∧ Kd.C Kd.string w A l.length l ∧ l.length ≤ 8796093022207 := by
  obtain ⟨A, len, cap, rfl⟩ := hv
  obtain ⟨fuel, hf⟩ := h
  obtain ⟨A', cap', l, e, hl, hC, hR⟩ := open_strsC (enc := enc) (w := w) hf (fun n hn => by
    have := List.all_eq_true.1 hsz _ (DataW.weights_mem_each ht hd n hn)
    simpa using this)
  simp only [Value.cells, List.cons.injEq, and_true, Value.slice.injEq] at e
  obtain ⟨rfl, rfl, rfl⟩ := e
  exact ⟨A, cap, l, rfl, hl, hC, hR⟩
end
end Go.Proofs.Ytbjkfllghkcgcaa.PX
/- A set of names, as it comes in. -/
set_option linter.unusedVariables false
set_option linter.unusedSimpArgs false
namespace Go.Proofs.Ytbjkfllghkcgcaa.PX
open Go.RowKit Go.Proofs.YtbjkfllghkcgcaaW.PrintWords Go.Proofs.YtbjkfllghkcgcaaW.PrintLast Go.Proofs.YtbjkfllghkcgcaaW.PrintMore Go.ChangeShapes Go.WideShapes Go.ChangeAt Go.Deep
section
variable {H : Type} {enc : TypeId × Value → H} {w : World}
theorem open_namesC {fuel : Nat} {cs : List Value} {x : DataW H × List MemPlace} (h : DataW.trod enc Try.prog w 0 (fun _ => true) true fuel 25 cs = some x)
    (hw : ∀ n ∈ x.1.weights Try.prog 25, n ≤ reachBytes) :
    ∃ (b : Bool) (A : Option Addr) (cap : Nat) (l : List ByteArray), cs = [.bool b, .slice A l.length cap] ∧ l.length ≤ cap ∧ Kd.C Kd.string w A l.length l ∧ l.length ≤ 8796093022207 := by
  obtain ⟨y0, y1, n, hx, hl, h0, h1⟩ := trod_struct2 Try.underlying25 h
  have h2 : Try.prog.cellsOf 25 = 2 := by kernel_rfl
  have e1 : Try.prog.cellsOf 4 = 1 := by kernel_rfl
  have e2 : Try.prog.cellsOf 23 = 1 := by kernel_rfl
  rw [h2] at hl
  have hx1 : x.1 = .agg [y0.1, y1.1] := congrArg Prod.fst hx
  match cs, hl with
  | [u0, u1], _ =>
    simp only [e1, e2, List.drop_zero, List.drop_succ_cons, List.take_succ_cons, List.take_zero] at h0 h1
    obtain ⟨b, hb, _⟩ := DataW.trod_bool Try.underlying4 h0
    obtain ⟨A, cap, l, hc, h4, h5, h6⟩ := open_strsC h1 (fun q hq => hw q (by
      rw [hx1, DataW.weights, Try.underlying25]
      simp only [List.map_cons, List.map_nil, DataW.weightsEach]
      exact List.mem_append_right _ (List.mem_append_left _ hq)))
    simp only [List.cons.injEq, and_true] at hb hc
    subst hb hc
    exact ⟨b, A, cap, l, rfl, h4, h5, h6⟩
theorem open_namesK {v : Value} {d : DataW H} {p : List MemPlace} {ts : List TypeId} {ds : List (DataW H)} {j : Nat} (hv : ∃ cs, v = .agg cs ∧ cs.size = Try.prog.cellsOf 25) (h : DataW.Trod enc Try.prog w 0 (fun _ => true) true 25 v d p)
    (hsz : (DataW.weightsEach Try.prog ts ds).all (· ≤ reachBytes) = true) (ht : ts[j]? = some 25) (hd : ds[j]? = some d) :
    ∃ (b : Bool) (A : Option Addr) (cap : Nat) (l : List ByteArray), v = .agg #[.bool b, .slice A l.length cap] ∧ l.length ≤ cap ∧ Kd.C Kd.string w A l.length l ∧ l.length ≤ 8796093022207 := by
  obtain ⟨cs, rfl, _⟩ := hv
  obtain ⟨fuel, hf⟩ := h
  obtain ⟨b, A, cap, l, e, hl, hC, hR⟩ := open_namesC (enc := enc) (w := w) hf (fun n hn => by
    have := List.all_eq_true.1 hsz _ (DataW.weights_mem_each ht hd n hn)
    simpa using this)
  refine ⟨b, A, cap, l, ?_, hl, hC, hR⟩
  obtain ⟨c⟩ := cs
  simp only [Value.cells] at e
  rw [show c = _ from e]
end
end Go.Proofs.Ytbjkfllghkcgcaa.PX
set_option linter.unusedVariables false
set_option linter.unusedSimpArgs false
namespace Go.Proofs.Ytbjkfllghkcgcaa.namesOf
open Go.ChangeShapes Go.WideShapes Go.ChangeAt Go.RowKit
open Go.ChangeMaps (open_string shut_string)
open Go.Proofs.Ytbjkfllghkcgcaa.PX
theorem own : ownKnob Try.prog.godebug = none := by kernel_rfl
theorem laidOut : laidOutB Try.prog = true := by kernel_rfl
set_option maxRecDepth 100000 in
theorem lifted (os : Os) (started : os.Started) (H : Type) (enc : TypeId × Value → H) :
    ReturnsInHanded {} Try.checked os 3 .any (Rows.namesOfSpec.pre6 enc Try.prog Try.f3 Rows.namesOfRow.domain false) (Rows.namesOfSpec.post enc Try.prog Try.f3 false true false false) := by
  refine returnsInHanded_of_change_sized (C := Try.checked) own started (by kernel_rfl) Try.func3
    (ChangeSpec.witness6 (enc := enc) (C := Try.checked) false ⟨#[], #[.slice none 0 0, .agg #[.bool false, .slice none 0 0]], []⟩ 8 (by kernel_rfl) (by kernel_rfl) (by kernel_rfl) (by kernel_rfl)) ?_
  intro W base args ds gs before hval0 hW hcnd hsz0 _
  have hsz : (DataW.weightsEach Try.prog (Try.f3.params.toList ++ Rows.namesOfSpec.plain.varTypes Try.prog) (ds ++ gs)).all (· ≤ reachBytes) = true := hsz0
  have hval : ∀ (j : Nat) t v, Try.f3.params[j]? = some t → args[j]? = some v → Value.okWide Try.prog W .any base t v := hval0
  have hW' := hW
  obtain ⟨p, q, hA0, hV, rfl, hfz, hnd⟩ := hW
  have hA : DataW.TrodAll enc Try.prog W 0 (fun _ => true) true Try.f3.params.toList args.toList ds p := hA0
  rw [Try.params3] at hA hval hsz
  obtain ⟨v0, vs0, d0, ds0, p0, q0, hargs, rfl, rfl, h0, r0⟩ := trodAll_cons hA
  obtain ⟨v1, vs1, d1, ds1, p1, q1, rfl, rfl, rfl, h1, r1⟩ := trodAll_cons r0
  obtain ⟨rfl, rfl, rfl⟩ := trodAll_nil r1
  obtain rfl : args = #[v0, v1] := by cases args; simp_all
  obtain ⟨rfl, rfl⟩ := trodVars_none hV
  have lt0 : ∀ x ∈ p0, x.block < W.heap.size := by obtain ⟨m, hm⟩ := h0; exact DataW.trod_lt m _ _ _ hm
  have k0 := h0
  have lt1 : ∀ x ∈ p1, x.block < W.heap.size := by obtain ⟨m, hm⟩ := h1; exact DataW.trod_lt m _ _ _ hm
  have k1 := h1
  obtain ⟨a0, c0, x0, rfl, L0, C0, R0⟩ := open_raw (okWide_slice Try.underlying22 (hval 0 22 v0 rfl rfl)) h0 hsz (j := 0) rfl rfl
  obtain ⟨b1, a1, c1, x1, rfl, L1, C1, R1⟩ := open_namesK (okWide_struct Try.underlying25 (hval 1 25 v1 rfl rfl)) h1 hsz (j := 1) rfl rfl
  clear hA0 hval0 hsz0 hsz
  obtain ⟨k, hk⟩ := (namesOf_ev x0 R0 b1 x1).rounds
  refine (cadencelaw3_NamesOf.calls k a0 c0 x0 b1 a1 c1 x1 true W C0 L0 C1 L1 hk).mono fun e W' ⟨he, bel⟩ => ?_
  subst he
  exact ⟨_, rfl, _, _, _, [], _, [], hW', trodAll_mk1 (shut_bool Try.underlying4 _), (trodAll_cons_mk (Below.trod laidOut (by kernel_rfl) (of_decide_eq_true (by kernel_rfl)) k0 bel lt0) (trodAll_cons_mk (Below.trod laidOut (by kernel_rfl) (of_decide_eq_true (by kernel_rfl)) k1 bel lt1) trodAll_mk0)), rfl, bel.frame _, fun h => by cases h⟩

theorem over : Rows.namesOfRow.holds Try.pinned (OpenSpec.ofChange Rows.namesOfSpec) :=
  OpenClaim.holds_of_wide 3 Try.f3 rfl rfl rfl rfl rfl rfl rfl ⟨rfl, rfl, rfl, rfl, rfl⟩ rfl rfl rfl rfl rfl (by kernel_rfl) Try.func3 (by kernel_rfl)
    (of_decide_eq_true (by kernel_rfl)) (by unfold Func.isWrapper; first | (rw [if_pos (by decide +kernel)]; kernel_rfl) | (rw [if_neg (by decide +kernel)]; exact ⟨rfl, rfl⟩))
    (fun os started H enc _ => lifted os started H enc)

theorem proved : Rows.NamesOfSaid := over
#print axioms proved
end Go.Proofs.Ytbjkfllghkcgcaa.namesOf
