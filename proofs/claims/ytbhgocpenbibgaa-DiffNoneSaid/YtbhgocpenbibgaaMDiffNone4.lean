/-
  The statement of 'DiffNone': the Go function returns true at every input, and its arguments read as before.
  Conditions: none.
-/
import Derived.Test.YtbhgocpenbibgaaMDiffNone1
import Derived.Test.YtbhgocpenbibgaaMDiffNone2
import Derived.Test.YtbhgocpenbibgaaMDiffNone3
import Derived.Test.YtbhgocpenbibgaaRows
import Derived.WalkKit
import Derived.ProofKit
import Derived.OpenShut
import Derived.ShutString
import Derived.ChangeOld
import Derived.Below
import Derived.SizedLaws
-- written by wip/tools/hybrid.py (over the kit's print.py, with functions proved by hand beside it) for this claim
namespace Go.Proofs.Ytbhgocpenbibgaa.PX
open Go.RowKit Go.Proofs.YtbhgocpenbibgaaW.PrintWords Go.Proofs.YtbhgocpenbibgaaW.PrintLast Go.Proofs.YtbhgocpenbibgaaW.PrintMore
attribute [local go_sem] max2_int min2_int max_two min_two max_three min_three max_four min_four   -- for this text's walks alone
set_option linter.unusedVariables false
set_option linter.unusedSimpArgs false

/-! ### cadencelaw13_DiffNone: function 5 -/
mutual
def cadencelaw13_DiffNone.j0 : Nat → List (S49) → List (S49) → Bool → Option (Bool)
  | 0, _, _, _ => none
  | k + 1, x0, x1, x23 => if x23 = true then (some true) else ((cadencelaw2_Make.f k x0 6 5).bind fun t491 => ((cadencelaw2_Make.f k x1 6 5).bind fun t494 => ((diff_Paths.f k t491 t494).bind fun t497 => ((cadenceref2_Same.f k t491 t494).bind fun t500 => (if (((t497.length : Int) == 0) != t500) = true then (cadencelaw13_DiffNone.j1 k t491 t494 t497 true) else ((diff_Paths.f k t491 t491).bind fun t501 => (cadencelaw13_DiffNone.j1 k t491 t494 t497 ((t501.length : Int) != 0))))))))
def cadencelaw13_DiffNone.j1 : Nat → List (S45) → List (S45) → List (List ByteArray) → Bool → Option (Bool)
  | 0, _, _, _, _ => none
  | k + 1, x5, x6, x7, x44 => if x44 = true then (some false) else (cadencelaw13_DiffNone.l0 k x5 x6 x7 0)
def cadencelaw13_DiffNone.l0 : Nat → List (S45) → List (S45) → List (List ByteArray) → Int → Option (Bool)
  | 0, _, _, _, _ => none
  | k + 1, x5, x6, x7, x8 => if x8 < (x7.length : Int) then (if 0 ≤ x8 then (if ((rd_L1 x7 x8).length : Int) = 0 then (some false) else ((cadenceref2_Get.f k x5 (rd_L1 x7 x8)).bind fun bt506 => ((cadenceref2_Get.f k x6 (rd_L1 x7 x8)).bind fun bt511 => (if (bt506.2 == bt511.2) = true then (some false) else (cadencelaw13_DiffNone.l1 k x5 x6 x7 x8 0))))) else (none)) else (some true)
def cadencelaw13_DiffNone.l1 : Nat → List (S45) → List (S45) → List (List ByteArray) → Int → Int → Option (Bool)
  | 0, _, _, _, _, _ => none
  | k + 1, x5, x6, x7, x8, x13 => if x13 < x8 then (if 0 ≤ x8 then (if x8 < (x7.length : Int) then (if 0 ≤ x13 then (if x13 < (x7.length : Int) then ((diff_Front.f k (rd_L1 x7 x8) (rd_L1 x7 x13)).bind fun t517 => (if t517 = true then (some false) else ((diff_Front.f k (rd_L1 x7 x13) (rd_L1 x7 x8)).bind fun t520 => (if t520 = true then (some false) else (cadencelaw13_DiffNone.l1 k x5 x6 x7 x8 (wrap64 (x13 + 1))))))) else (none)) else (none)) else (none)) else (none)) else (cadencelaw13_DiffNone.l0 k x5 x6 x7 (wrap64 (x8 + 1)))
end
def cadencelaw13_DiffNone.f (k : Nat) (l0 : List (S49)) (l1 : List (S49)) : Option (Bool) := (cadencelaw13_known.f k).bind fun t488 => (if t488 = true then ((cadencelaw2_Few.f k l0).bind fun t489 => (if t489 = true then ((cadencelaw2_Few.f k l1).bind fun t490 => (cadencelaw13_DiffNone.j0 k l0 l1 (!t490))) else (cadencelaw13_DiffNone.j0 k l0 l1 true))) else (some false))
theorem cadencelaw13_DiffNone.mono_l : ∀ k, (∀ y0 y1 y2, LeO (cadencelaw13_DiffNone.j0 k y0 y1 y2) (cadencelaw13_DiffNone.j0 (k + 1) y0 y1 y2)) ∧ (∀ y0 y1 y2 y3, LeO (cadencelaw13_DiffNone.j1 k y0 y1 y2 y3) (cadencelaw13_DiffNone.j1 (k + 1) y0 y1 y2 y3)) ∧ (∀ y0 y1 y2 y3, LeO (cadencelaw13_DiffNone.l0 k y0 y1 y2 y3) (cadencelaw13_DiffNone.l0 (k + 1) y0 y1 y2 y3)) ∧ (∀ y0 y1 y2 y3 y4, LeO (cadencelaw13_DiffNone.l1 k y0 y1 y2 y3 y4) (cadencelaw13_DiffNone.l1 (k + 1) y0 y1 y2 y3 y4))
  | 0 => ⟨fun _ _ _ r h => by simp [cadencelaw13_DiffNone.j0] at h, fun _ _ _ _ r h => by simp [cadencelaw13_DiffNone.j1] at h, fun _ _ _ _ r h => by simp [cadencelaw13_DiffNone.l0] at h, fun _ _ _ _ _ r h => by simp [cadencelaw13_DiffNone.l1] at h⟩
  | k + 1 => by
    obtain ⟨ih0, ih1, ih2, ih3⟩ := cadencelaw13_DiffNone.mono_l k
    refine ⟨?_, ?_, ?_, ?_⟩
    · intro y0 y1 y2
      unfold cadencelaw13_DiffNone.j0
      repeat' first
      | (with_reducible exact ih0 _ _ _)
      | (with_reducible exact ih1 _ _ _ _)
      | (with_reducible exact ih2 _ _ _ _)
      | (with_reducible exact ih3 _ _ _ _ _)
      | (with_reducible exact cadencelaw13_known.mono _)
      | (with_reducible exact cadencelaw2_Few.mono _ _)
      | (with_reducible exact cadencelaw2_Make.mono _ _ _ _)
      | (with_reducible exact cadenceref2_Get.mono _ _ _)
      | (with_reducible exact cadenceref2_Same.mono _ _ _)
      | (with_reducible exact diff_Front.mono _ _ _)
      | (with_reducible exact diff_Paths.mono _ _ _)
      | (with_reducible exact LeO.refl _)
      | (with_reducible exact LeO.none _)
      | (with_reducible refine LeO.ite ?_ ?_)
      | (with_reducible refine LeO.bind ?_ (fun _ => ?_))
      | exact ih0 _ _ _
      | exact ih1 _ _ _ _
      | exact ih2 _ _ _ _
      | exact ih3 _ _ _ _ _
      | exact cadencelaw13_known.mono _
      | exact cadencelaw2_Few.mono _ _
      | exact cadencelaw2_Make.mono _ _ _ _
      | exact cadenceref2_Get.mono _ _ _
      | exact cadenceref2_Same.mono _ _ _
      | exact diff_Front.mono _ _ _
      | exact diff_Paths.mono _ _ _
      | exact LeO.none _
      | refine LeO.ite ?_ ?_
      | refine LeO.bind ?_ (fun _ => ?_)
    · intro y0 y1 y2 y3
      unfold cadencelaw13_DiffNone.j1
      repeat' first
      | (with_reducible exact ih0 _ _ _)
      | (with_reducible exact ih1 _ _ _ _)
      | (with_reducible exact ih2 _ _ _ _)
      | (with_reducible exact ih3 _ _ _ _ _)
      | (with_reducible exact cadencelaw13_known.mono _)
      | (with_reducible exact cadencelaw2_Few.mono _ _)
      | (with_reducible exact cadencelaw2_Make.mono _ _ _ _)
      | (with_reducible exact cadenceref2_Get.mono _ _ _)
      | (with_reducible exact cadenceref2_Same.mono _ _ _)
      | (with_reducible exact diff_Front.mono _ _ _)
      | (with_reducible exact diff_Paths.mono _ _ _)
      | (with_reducible exact LeO.refl _)
      | (with_reducible exact LeO.none _)
      | (with_reducible refine LeO.ite ?_ ?_)
      | (with_reducible refine LeO.bind ?_ (fun _ => ?_))
      | exact ih0 _ _ _
      | exact ih1 _ _ _ _
      | exact ih2 _ _ _ _
      | exact ih3 _ _ _ _ _
      | exact cadencelaw13_known.mono _
      | exact cadencelaw2_Few.mono _ _
      | exact cadencelaw2_Make.mono _ _ _ _
      | exact cadenceref2_Get.mono _ _ _
      | exact cadenceref2_Same.mono _ _ _
      | exact diff_Front.mono _ _ _
      | exact diff_Paths.mono _ _ _
      | exact LeO.none _
      | refine LeO.ite ?_ ?_
      | refine LeO.bind ?_ (fun _ => ?_)
    · intro y0 y1 y2 y3
      unfold cadencelaw13_DiffNone.l0
      repeat' first
      | (with_reducible exact ih0 _ _ _)
      | (with_reducible exact ih1 _ _ _ _)
      | (with_reducible exact ih2 _ _ _ _)
      | (with_reducible exact ih3 _ _ _ _ _)
      | (with_reducible exact cadencelaw13_known.mono _)
      | (with_reducible exact cadencelaw2_Few.mono _ _)
      | (with_reducible exact cadencelaw2_Make.mono _ _ _ _)
      | (with_reducible exact cadenceref2_Get.mono _ _ _)
      | (with_reducible exact cadenceref2_Same.mono _ _ _)
      | (with_reducible exact diff_Front.mono _ _ _)
      | (with_reducible exact diff_Paths.mono _ _ _)
      | (with_reducible exact LeO.refl _)
      | (with_reducible exact LeO.none _)
      | (with_reducible refine LeO.ite ?_ ?_)
      | (with_reducible refine LeO.bind ?_ (fun _ => ?_))
      | exact ih0 _ _ _
      | exact ih1 _ _ _ _
      | exact ih2 _ _ _ _
      | exact ih3 _ _ _ _ _
      | exact cadencelaw13_known.mono _
      | exact cadencelaw2_Few.mono _ _
      | exact cadencelaw2_Make.mono _ _ _ _
      | exact cadenceref2_Get.mono _ _ _
      | exact cadenceref2_Same.mono _ _ _
      | exact diff_Front.mono _ _ _
      | exact diff_Paths.mono _ _ _
      | exact LeO.none _
      | refine LeO.ite ?_ ?_
      | refine LeO.bind ?_ (fun _ => ?_)
    · intro y0 y1 y2 y3 y4
      unfold cadencelaw13_DiffNone.l1
      repeat' first
      | (with_reducible exact ih0 _ _ _)
      | (with_reducible exact ih1 _ _ _ _)
      | (with_reducible exact ih2 _ _ _ _)
      | (with_reducible exact ih3 _ _ _ _ _)
      | (with_reducible exact cadencelaw13_known.mono _)
      | (with_reducible exact cadencelaw2_Few.mono _ _)
      | (with_reducible exact cadencelaw2_Make.mono _ _ _ _)
      | (with_reducible exact cadenceref2_Get.mono _ _ _)
      | (with_reducible exact cadenceref2_Same.mono _ _ _)
      | (with_reducible exact diff_Front.mono _ _ _)
      | (with_reducible exact diff_Paths.mono _ _ _)
      | (with_reducible exact LeO.refl _)
      | (with_reducible exact LeO.none _)
      | (with_reducible refine LeO.ite ?_ ?_)
      | (with_reducible refine LeO.bind ?_ (fun _ => ?_))
      | exact ih0 _ _ _
      | exact ih1 _ _ _ _
      | exact ih2 _ _ _ _
      | exact ih3 _ _ _ _ _
      | exact cadencelaw13_known.mono _
      | exact cadencelaw2_Few.mono _ _
      | exact cadencelaw2_Make.mono _ _ _ _
      | exact cadenceref2_Get.mono _ _ _
      | exact cadenceref2_Same.mono _ _ _
      | exact diff_Front.mono _ _ _
      | exact diff_Paths.mono _ _ _
      | exact LeO.none _
      | refine LeO.ite ?_ ?_
      | refine LeO.bind ?_ (fun _ => ?_)
theorem cadencelaw13_DiffNone.mono : ∀ a0 a1 k, LeO (cadencelaw13_DiffNone.f k a0 a1) (cadencelaw13_DiffNone.f (k + 1) a0 a1) := by
  intro a0 a1 k
  obtain ⟨ih0, ih1, ih2, ih3⟩ := cadencelaw13_DiffNone.mono_l k
  unfold cadencelaw13_DiffNone.f
  repeat' first
      | (with_reducible exact ih0 _ _ _)
      | (with_reducible exact ih1 _ _ _ _)
      | (with_reducible exact ih2 _ _ _ _)
      | (with_reducible exact ih3 _ _ _ _ _)
      | (with_reducible exact cadencelaw13_known.mono _)
      | (with_reducible exact cadencelaw2_Few.mono _ _)
      | (with_reducible exact cadencelaw2_Make.mono _ _ _ _)
      | (with_reducible exact cadenceref2_Get.mono _ _ _)
      | (with_reducible exact cadenceref2_Same.mono _ _ _)
      | (with_reducible exact diff_Front.mono _ _ _)
      | (with_reducible exact diff_Paths.mono _ _ _)
      | (with_reducible exact LeO.refl _)
      | (with_reducible exact LeO.none _)
      | (with_reducible refine LeO.ite ?_ ?_)
      | (with_reducible refine LeO.bind ?_ (fun _ => ?_))
      | exact ih0 _ _ _
      | exact ih1 _ _ _ _
      | exact ih2 _ _ _ _
      | exact ih3 _ _ _ _ _
      | exact cadencelaw13_known.mono _
      | exact cadencelaw2_Few.mono _ _
      | exact cadencelaw2_Make.mono _ _ _ _
      | exact cadenceref2_Get.mono _ _ _
      | exact cadenceref2_Same.mono _ _ _
      | exact diff_Front.mono _ _ _
      | exact diff_Paths.mono _ _ _
      | exact LeO.none _
      | refine LeO.ite ?_ ?_
      | refine LeO.bind ?_ (fun _ => ?_)
set_option maxHeartbeats 8000000 in
set_option maxRecDepth 100000 in
theorem cadencelaw13_DiffNone.calls (k : Nat) (A0 : Option Addr) (c0 : Nat) (l0 : List (S49)) (A1 : Option Addr) (c1 : Nat) (l1 : List (S49)) (r : Bool) (w : World) (hr0 : Kd.C k49 w A0 l0.length l0) (hc0 : l0.length ≤ c0) (hr1 : Kd.C k49 w A1 l1.length l1) (hc1 : l1.length ≤ c1) (h : cadencelaw13_DiffNone.f k l0 l1 = some r) :
    Calls Try.prog 5 #[.slice A0 l0.length c0, .slice A1 l1.length c1] w fun e w' => e = .returned (.bool r) ∧ Below w.heap.size w w' := by
  have HR0 := Aside0.mk hr0
  have HC0 := Aside0.mk hc0
  clear hr0 hc0
  have HR1 := Aside0.mk hr1
  have HC1 := Aside0.mk hc1
  clear hr1 hc1
  have HB := Aside0.mk (Below.refl w.heap.size w)
  have H : ((cadencelaw13_known.f k).bind fun t488 => (if t488 = true then ((cadencelaw2_Few.f k l0).bind fun t489 => (if t489 = true then ((cadencelaw2_Few.f k l1).bind fun t490 => (cadencelaw13_DiffNone.j0 k l0 l1 (!t490))) else (cadencelaw13_DiffNone.j0 k l0 l1 true))) else (some false))) = some r := h
  clear h
  replace H := Option.bind_eq_some_iff.mp H
  obtain ⟨t488, A30, H⟩ := H
  replace H : (if t488 = true then ((cadencelaw2_Few.f k l0).bind fun t489 => (if t489 = true then ((cadencelaw2_Few.f k l1).bind fun t490 => (cadencelaw13_DiffNone.j0 k l0 l1 (!t490))) else (cadencelaw13_DiffNone.j0 k l0 l1 true))) else (some false)) = some r := H
  have A3 := Aside0.mk A30
  clear A30
  by_cases c4 : t488 = true
  · subst c4
    have H1 : ((cadencelaw2_Few.f k l0).bind fun t489 => (if t489 = true then ((cadencelaw2_Few.f k l1).bind fun t490 => (cadencelaw13_DiffNone.j0 k l0 l1 (!t490))) else (cadencelaw13_DiffNone.j0 k l0 l1 true))) = some r := by rw [if_pos rfl] at H; exact H
    clear H
    have H := H1
    clear H1
    have HC5 := Aside0.mk H
    clear H
    go_enter Try.func5, Try.ntmps5
    go_upto_region 3 with (first | (go_at_call 8; (with_reducible refine (cadencelaw13_known.calls k  true _ A3.out).mono ?_); rintro e w6 ⟨rfl, hb⟩; have n0_ := Aside0.mk (below_step (by repeat (first | (with_reducible first | exact HB.out | apply bA_ | apply bN_ | apply bD_) | exact HB.out)) hb); clear HB; have HB := n0_; clear n0_; (try clear hb); (try clear hb2); (try clear hk); (try clear hi)))
    repeat (go_quiet (first | (go_at_call 8; (with_reducible refine (cadencelaw13_known.calls k  true _ A3.out).mono ?_); rintro e w6 ⟨rfl, hb⟩; have n0_ := Aside0.mk (below_step (by repeat (first | (with_reducible first | exact HB.out | apply bA_ | apply bN_ | apply bD_) | exact HB.out)) hb); clear HB; have HB := n0_; clear n0_; (try clear hb); (try clear hb2); (try clear hk); (try clear hi))); go_upto_region 3 with (first | (go_at_call 8; (with_reducible refine (cadencelaw13_known.calls k  true _ A3.out).mono ?_); rintro e w6 ⟨rfl, hb⟩; have n0_ := Aside0.mk (below_step (by repeat (first | (with_reducible first | exact HB.out | apply bA_ | apply bN_ | apply bD_) | exact HB.out)) hb); clear HB; have HB := n0_; clear n0_; (try clear hb); (try clear hb2); (try clear hk); (try clear hi))))
    (try simp only [Act.put, List.setIfInBounds_toArray, List.set_cons_zero, List.set_cons_succ])
    go_cut [23] (fun v23 wc => ∃ (kq : Nat) (x23_4 : Bool), v23 = .bool x23_4 ∧ Aside0 (cadencelaw13_DiffNone.j0 kq l0 l1 x23_4 = some r) ∧ Aside0 (kq ≤ k) ∧ Aside0 (Below w.heap.size w wc))
    case first =>
      have H := HC5.out
      clear HC5
      replace H := Option.bind_eq_some_iff.mp H
      obtain ⟨t489, A70, H⟩ := H
      replace H : (if t489 = true then ((cadencelaw2_Few.f k l1).bind fun t490 => (cadencelaw13_DiffNone.j0 k l0 l1 (!t490))) else (cadencelaw13_DiffNone.j0 k l0 l1 true)) = some r := H
      have A7 := Aside0.mk A70
      clear A70
      by_cases c8 : t489 = true
      · subst c8
        have H1 : ((cadencelaw2_Few.f k l1).bind fun t490 => (cadencelaw13_DiffNone.j0 k l0 l1 (!t490))) = some r := by rw [if_pos rfl] at H; exact H
        clear H
        have H := H1
        clear H1
        replace H := Option.bind_eq_some_iff.mp H
        obtain ⟨t490, A90, H⟩ := H
        replace H : (cadencelaw13_DiffNone.j0 k l0 l1 (!t490)) = some r := H
        have A9 := Aside0.mk A90
        clear A90
        have H' := Aside0.mk H
        clear H
        go_wp2_with (first | (go_at_call 9; (with_reducible refine (cadencelaw2_Few.calls k _ _ l0 true _ ?side1 ?side2 A7.out).mono ?_); (case side1 => repeat (first | exact (Kd.C_below HR0.out HB.out) | (with_reducible refine cA_ ?_ _) | (with_reducible refine cN_ ?_ _) | (with_reducible refine cD_ ?_))); (case side2 => exact HC0.out); rintro e w' ⟨rfl, ⟨nd, rfl⟩⟩; (try first | exact ⟨rfl, _, World.drewN_drewN _ _ _⟩ | exact ⟨rfl, _, Eq.trans (World.drewN_drewN _ _ _) (congrArg (World.drewN _) (Nat.add_assoc _ _ _))⟩)) | (go_at_call 9; (with_reducible refine (cadencelaw2_Few.calls k _ _ l1 t490 _ ?side1 ?side2 A9.out).mono ?_); (case side1 => repeat (first | exact (Kd.C_below HR1.out (by repeat (first | (with_reducible first | exact HB.out | apply bA_ | apply bN_ | apply bD_) | exact HB.out))) | (with_reducible refine cA_ ?_ _) | (with_reducible refine cN_ ?_ _) | (with_reducible refine cD_ ?_))); (case side2 => exact HC1.out); rintro e w' ⟨rfl, ⟨nd, rfl⟩⟩; (try first | exact ⟨rfl, _, World.drewN_drewN _ _ _⟩ | exact ⟨rfl, _, Eq.trans (World.drewN_drewN _ _ _) (congrArg (World.drewN _) (Nat.add_assoc _ _ _))⟩)))
        repeat (go_quiet (first | (go_at_call 9; (with_reducible refine (cadencelaw2_Few.calls k _ _ l0 true _ ?side1 ?side2 A7.out).mono ?_); (case side1 => repeat (first | exact (Kd.C_below HR0.out HB.out) | (with_reducible refine cA_ ?_ _) | (with_reducible refine cN_ ?_ _) | (with_reducible refine cD_ ?_))); (case side2 => exact HC0.out); rintro e w' ⟨rfl, ⟨nd, rfl⟩⟩; (try first | exact ⟨rfl, _, World.drewN_drewN _ _ _⟩ | exact ⟨rfl, _, Eq.trans (World.drewN_drewN _ _ _) (congrArg (World.drewN _) (Nat.add_assoc _ _ _))⟩)) | (go_at_call 9; (with_reducible refine (cadencelaw2_Few.calls k _ _ l1 t490 _ ?side1 ?side2 A9.out).mono ?_); (case side1 => repeat (first | exact (Kd.C_below HR1.out (by repeat (first | (with_reducible first | exact HB.out | apply bA_ | apply bN_ | apply bD_) | exact HB.out))) | (with_reducible refine cA_ ?_ _) | (with_reducible refine cN_ ?_ _) | (with_reducible refine cD_ ?_))); (case side2 => exact HC1.out); rintro e w' ⟨rfl, ⟨nd, rfl⟩⟩; (try first | exact ⟨rfl, _, World.drewN_drewN _ _ _⟩ | exact ⟨rfl, _, Eq.trans (World.drewN_drewN _ _ _) (congrArg (World.drewN _) (Nat.add_assoc _ _ _))⟩))); try go_wp2_with (first | (go_at_call 9; (with_reducible refine (cadencelaw2_Few.calls k _ _ l0 true _ ?side1 ?side2 A7.out).mono ?_); (case side1 => repeat (first | exact (Kd.C_below HR0.out HB.out) | (with_reducible refine cA_ ?_ _) | (with_reducible refine cN_ ?_ _) | (with_reducible refine cD_ ?_))); (case side2 => exact HC0.out); rintro e w' ⟨rfl, ⟨nd, rfl⟩⟩; (try first | exact ⟨rfl, _, World.drewN_drewN _ _ _⟩ | exact ⟨rfl, _, Eq.trans (World.drewN_drewN _ _ _) (congrArg (World.drewN _) (Nat.add_assoc _ _ _))⟩)) | (go_at_call 9; (with_reducible refine (cadencelaw2_Few.calls k _ _ l1 t490 _ ?side1 ?side2 A9.out).mono ?_); (case side1 => repeat (first | exact (Kd.C_below HR1.out (by repeat (first | (with_reducible first | exact HB.out | apply bA_ | apply bN_ | apply bD_) | exact HB.out))) | (with_reducible refine cA_ ?_ _) | (with_reducible refine cN_ ?_ _) | (with_reducible refine cD_ ?_))); (case side2 => exact HC1.out); rintro e w' ⟨rfl, ⟨nd, rfl⟩⟩; (try first | exact ⟨rfl, _, World.drewN_drewN _ _ _⟩ | exact ⟨rfl, _, Eq.trans (World.drewN_drewN _ _ _) (congrArg (World.drewN _) (Nat.add_assoc _ _ _))⟩))))
        go_meet
        case rel => exact ⟨_, (!t490), (by first | rfl | (simp; done) | (simp [*]; done)), H', ⟨by first | omega | exact Nat.le_refl _⟩, ⟨by repeat (first | (with_reducible first | exact HB.out | apply bA_ | apply bN_ | apply bD_) | exact HB.out)⟩⟩
      · replace c8 := Bool.eq_false_iff.mpr c8
        subst c8
        have H1 : (cadencelaw13_DiffNone.j0 k l0 l1 true) = some r := by rw [if_neg (show ¬ (false = true) by decide)] at H; exact H
        clear H
        have H := H1
        clear H1
        have H' := Aside0.mk H
        clear H
        go_wp2_with (first | (go_at_call 9; (with_reducible refine (cadencelaw2_Few.calls k _ _ l0 false _ ?side1 ?side2 A7.out).mono ?_); (case side1 => repeat (first | exact (Kd.C_below HR0.out HB.out) | (with_reducible refine cA_ ?_ _) | (with_reducible refine cN_ ?_ _) | (with_reducible refine cD_ ?_))); (case side2 => exact HC0.out); rintro e w' ⟨rfl, ⟨nd, rfl⟩⟩; (try first | exact ⟨rfl, _, World.drewN_drewN _ _ _⟩ | exact ⟨rfl, _, Eq.trans (World.drewN_drewN _ _ _) (congrArg (World.drewN _) (Nat.add_assoc _ _ _))⟩)))
        repeat (go_quiet (first | (go_at_call 9; (with_reducible refine (cadencelaw2_Few.calls k _ _ l0 false _ ?side1 ?side2 A7.out).mono ?_); (case side1 => repeat (first | exact (Kd.C_below HR0.out HB.out) | (with_reducible refine cA_ ?_ _) | (with_reducible refine cN_ ?_ _) | (with_reducible refine cD_ ?_))); (case side2 => exact HC0.out); rintro e w' ⟨rfl, ⟨nd, rfl⟩⟩; (try first | exact ⟨rfl, _, World.drewN_drewN _ _ _⟩ | exact ⟨rfl, _, Eq.trans (World.drewN_drewN _ _ _) (congrArg (World.drewN _) (Nat.add_assoc _ _ _))⟩))); try go_wp2_with (first | (go_at_call 9; (with_reducible refine (cadencelaw2_Few.calls k _ _ l0 false _ ?side1 ?side2 A7.out).mono ?_); (case side1 => repeat (first | exact (Kd.C_below HR0.out HB.out) | (with_reducible refine cA_ ?_ _) | (with_reducible refine cN_ ?_ _) | (with_reducible refine cD_ ?_))); (case side2 => exact HC0.out); rintro e w' ⟨rfl, ⟨nd, rfl⟩⟩; (try first | exact ⟨rfl, _, World.drewN_drewN _ _ _⟩ | exact ⟨rfl, _, Eq.trans (World.drewN_drewN _ _ _) (congrArg (World.drewN _) (Nat.add_assoc _ _ _))⟩))))
        go_meet
        case rel => exact ⟨_, (true), (by first | rfl | (simp; done) | (simp [*]; done)), H', ⟨by first | omega | exact Nat.le_refl _⟩, ⟨by repeat (first | (with_reducible first | exact HB.out | apply bA_ | apply bN_ | apply bD_) | exact HB.out)⟩⟩
    case rest =>
      clear HC5
      try clear c1
      try clear p2
      try clear c4
      try clear c5
      try clear c8
      obtain ⟨kq, x23_4, rfl, HA, HJ4, HB⟩ := hcut
      cases kq with
      | zero => exact absurd HA.out (by simp [cadencelaw13_DiffNone.j0])
      | succ kj4 =>
        have H := HA.out
        clear HA
        simp only [cadencelaw13_DiffNone.j0] at H
        by_cases c10 : x23_4 = true
        · subst c10
          have H1 : (some true) = some r := by rw [if_pos rfl] at H; exact H
          clear H
          have H := H1
          clear H1
          obtain rfl := Option.some.inj H
          go_wp2
          repeat (go_quiet (fail); try go_wp2)
          go_ret
          exact ⟨by first | rfl | (simp [errW_none, errW_some] <;> rfl) | (simp [*, errW_none, errW_some] <;> rfl), by repeat (first | (with_reducible first | exact HB.out | apply bA_ | apply bN_ | apply bD_) | exact HB.out)⟩
        · replace c10 := Bool.eq_false_iff.mpr c10
          subst c10
          have H1 : ((cadencelaw2_Make.f kj4 l0 6 5).bind fun t491 => ((cadencelaw2_Make.f kj4 l1 6 5).bind fun t494 => ((diff_Paths.f kj4 t491 t494).bind fun t497 => ((cadenceref2_Same.f kj4 t491 t494).bind fun t500 => (if (((t497.length : Int) == 0) != t500) = true then (cadencelaw13_DiffNone.j1 kj4 t491 t494 t497 true) else ((diff_Paths.f kj4 t491 t491).bind fun t501 => (cadencelaw13_DiffNone.j1 kj4 t491 t494 t497 ((t501.length : Int) != 0)))))))) = some r := by rw [if_neg (show ¬ (false = true) by decide)] at H; exact H
          clear H
          have H := H1
          clear H1
          replace H := Option.bind_eq_some_iff.mp H
          obtain ⟨t491, A110, H⟩ := H
          replace H : ((cadencelaw2_Make.f kj4 l1 6 5).bind fun t494 => ((diff_Paths.f kj4 t491 t494).bind fun t497 => ((cadenceref2_Same.f kj4 t491 t494).bind fun t500 => (if (((t497.length : Int) == 0) != t500) = true then (cadencelaw13_DiffNone.j1 kj4 t491 t494 t497 true) else ((diff_Paths.f kj4 t491 t491).bind fun t501 => (cadencelaw13_DiffNone.j1 kj4 t491 t494 t497 ((t501.length : Int) != 0))))))) = some r := H
          have A11 := Aside0.mk A110
          clear A110
          replace H := Option.bind_eq_some_iff.mp H
          obtain ⟨t494, A120, H⟩ := H
          replace H : ((diff_Paths.f kj4 t491 t494).bind fun t497 => ((cadenceref2_Same.f kj4 t491 t494).bind fun t500 => (if (((t497.length : Int) == 0) != t500) = true then (cadencelaw13_DiffNone.j1 kj4 t491 t494 t497 true) else ((diff_Paths.f kj4 t491 t491).bind fun t501 => (cadencelaw13_DiffNone.j1 kj4 t491 t494 t497 ((t501.length : Int) != 0)))))) = some r := H
          have A12 := Aside0.mk A120
          clear A120
          replace H := Option.bind_eq_some_iff.mp H
          obtain ⟨t497, A130, H⟩ := H
          replace H : ((cadenceref2_Same.f kj4 t491 t494).bind fun t500 => (if (((t497.length : Int) == 0) != t500) = true then (cadencelaw13_DiffNone.j1 kj4 t491 t494 t497 true) else ((diff_Paths.f kj4 t491 t491).bind fun t501 => (cadencelaw13_DiffNone.j1 kj4 t491 t494 t497 ((t501.length : Int) != 0))))) = some r := H
          have A13 := Aside0.mk A130
          clear A130
          have HC14 := Aside0.mk H
          clear H
          go_upto_region 7 with (first | (go_at_call 18; (with_reducible refine (cadencelaw2_Make.calls kj4 _ _ l0 6 5 t491 _ ?side1 ?side2 A11.out).mono ?_); (case side1 => repeat (first | exact (Kd.C_below HR0.out HB.out) | (with_reducible refine cA_ ?_ _) | (with_reducible refine cN_ ?_ _) | (with_reducible refine cD_ ?_))); (case side2 => exact HC0.out); rintro e w15 ⟨v492, rfl, ho0, hb⟩; have n0_ := Aside0.mk (Kd.N_lower (Kd.N_mono (ok' := fun k_ => True) ho0 (fun k_ hk_ => trivial)) (below_size (by repeat (first | (with_reducible first | exact HB.out | apply bA_ | apply bN_ | apply bD_) | exact HB.out)))); have n1_ := Aside0.mk (below_step (by repeat (first | (with_reducible first | exact HB.out | apply bA_ | apply bN_ | apply bD_) | exact HB.out)) hb); clear HB; have HO493 := n0_; have HB := n1_; clear n0_ n1_; (try clear hb); (try clear hb2); (try clear hk); (try clear hi); (try clear ho0)) | (go_at_call 18; (with_reducible refine (cadencelaw2_Make.calls kj4 _ _ l1 6 5 t494 _ ?side1 ?side2 A12.out).mono ?_); (case side1 => repeat (first | exact (Kd.C_below HR1.out HB.out) | (with_reducible refine cA_ ?_ _) | (with_reducible refine cN_ ?_ _) | (with_reducible refine cD_ ?_))); (case side2 => exact HC1.out); rintro e w16 ⟨v495, rfl, ho0, hb⟩; have n0_ := Aside0.mk (Kd.N_elder' (by (with_reducible repeat (first | apply nA_ | apply nN_ | apply nD_)); exact HO493.out) (Kd.N_base ho0) hb); have n1_ := Aside0.mk (Kd.N_lower (Kd.N_mono (ok' := fun k_ => some k_ ≠ (v492 : Value).ownBlock) ho0 (fun k_ hk_ => (Kd.fresh' (Kd.N_lt (by (with_reducible repeat (first | apply nA_ | apply nN_ | apply nD_)); exact HO493.out)) k_ hk_))) (below_size (by repeat (first | (with_reducible first | exact HB.out | apply bA_ | apply bN_ | apply bD_) | exact HB.out)))); have n2_ := Aside0.mk (below_step (by repeat (first | (with_reducible first | exact HB.out | apply bA_ | apply bN_ | apply bD_) | exact HB.out)) hb); clear HO493; clear HB; have HO493 := n0_; have HO496 := n1_; have HB := n2_; clear n0_ n1_ n2_; (try clear hb); (try clear hb2); (try clear hk); (try clear hi); (try clear ho0); obtain ⟨Ao17, co17, eo17⟩ := Kd.N_slice HO493.out; subst eo17; obtain ⟨Ao18, co18, eo18⟩ := Kd.N_slice HO496.out; subst eo18) | (go_at_call 11; (with_reducible refine (diff_Paths.calls kj4 (fun k_ => (True ∧ some k_ ≠ (.slice Ao18 t494.length co18 : Value).ownBlock)) _ _ t491 (fun k_ => some k_ ≠ (.slice Ao17 t491.length co17 : Value).ownBlock) _ _ t494 t497 _ ?side1 ?side2 A13.out).mono ?_); (case side1 => exact Kd.N_V (HO493.out)); (case side2 => exact Kd.N_V (HO496.out)); rintro e w19 ⟨v498, rfl, ho0, hb⟩; have n0_ := Aside0.mk (Kd.N_elder' (by (with_reducible repeat (first | apply nA_ | apply nN_ | apply nD_)); exact HO493.out) (Kd.N_base ho0) hb); have n1_ := Aside0.mk (Kd.N_elder' (by (with_reducible repeat (first | apply nA_ | apply nN_ | apply nD_)); exact HO496.out) (Kd.N_base ho0) hb); have n2_ := Aside0.mk (Kd.N_lower (Kd.N_mono (ok' := fun k_ => True) ho0 (fun k_ hk_ => trivial)) (below_size (by repeat (first | (with_reducible first | exact HB.out | apply bA_ | apply bN_ | apply bD_) | exact HB.out)))); have n3_ := Aside0.mk (below_step (by repeat (first | (with_reducible first | exact HB.out | apply bA_ | apply bN_ | apply bD_) | exact HB.out)) hb); clear HO493; clear HO496; clear HB; have HO493 := n0_; have HO496 := n1_; have HO499 := n2_; have HB := n3_; clear n0_ n1_ n2_ n3_; (try clear hb); (try clear hb2); (try clear hk); (try clear hi); (try clear ho0)))
          repeat (go_quiet (first | (go_at_call 18; (with_reducible refine (cadencelaw2_Make.calls kj4 _ _ l0 6 5 t491 _ ?side1 ?side2 A11.out).mono ?_); (case side1 => repeat (first | exact (Kd.C_below HR0.out HB.out) | (with_reducible refine cA_ ?_ _) | (with_reducible refine cN_ ?_ _) | (with_reducible refine cD_ ?_))); (case side2 => exact HC0.out); rintro e w15 ⟨v492, rfl, ho0, hb⟩; have n0_ := Aside0.mk (Kd.N_lower (Kd.N_mono (ok' := fun k_ => True) ho0 (fun k_ hk_ => trivial)) (below_size (by repeat (first | (with_reducible first | exact HB.out | apply bA_ | apply bN_ | apply bD_) | exact HB.out)))); have n1_ := Aside0.mk (below_step (by repeat (first | (with_reducible first | exact HB.out | apply bA_ | apply bN_ | apply bD_) | exact HB.out)) hb); clear HB; have HO493 := n0_; have HB := n1_; clear n0_ n1_; (try clear hb); (try clear hb2); (try clear hk); (try clear hi); (try clear ho0)) | (go_at_call 18; (with_reducible refine (cadencelaw2_Make.calls kj4 _ _ l1 6 5 t494 _ ?side1 ?side2 A12.out).mono ?_); (case side1 => repeat (first | exact (Kd.C_below HR1.out HB.out) | (with_reducible refine cA_ ?_ _) | (with_reducible refine cN_ ?_ _) | (with_reducible refine cD_ ?_))); (case side2 => exact HC1.out); rintro e w16 ⟨v495, rfl, ho0, hb⟩; have n0_ := Aside0.mk (Kd.N_elder' (by (with_reducible repeat (first | apply nA_ | apply nN_ | apply nD_)); exact HO493.out) (Kd.N_base ho0) hb); have n1_ := Aside0.mk (Kd.N_lower (Kd.N_mono (ok' := fun k_ => some k_ ≠ (v492 : Value).ownBlock) ho0 (fun k_ hk_ => (Kd.fresh' (Kd.N_lt (by (with_reducible repeat (first | apply nA_ | apply nN_ | apply nD_)); exact HO493.out)) k_ hk_))) (below_size (by repeat (first | (with_reducible first | exact HB.out | apply bA_ | apply bN_ | apply bD_) | exact HB.out)))); have n2_ := Aside0.mk (below_step (by repeat (first | (with_reducible first | exact HB.out | apply bA_ | apply bN_ | apply bD_) | exact HB.out)) hb); clear HO493; clear HB; have HO493 := n0_; have HO496 := n1_; have HB := n2_; clear n0_ n1_ n2_; (try clear hb); (try clear hb2); (try clear hk); (try clear hi); (try clear ho0); obtain ⟨Ao17, co17, eo17⟩ := Kd.N_slice HO493.out; subst eo17; obtain ⟨Ao18, co18, eo18⟩ := Kd.N_slice HO496.out; subst eo18) | (go_at_call 11; (with_reducible refine (diff_Paths.calls kj4 (fun k_ => (True ∧ some k_ ≠ (.slice Ao18 t494.length co18 : Value).ownBlock)) _ _ t491 (fun k_ => some k_ ≠ (.slice Ao17 t491.length co17 : Value).ownBlock) _ _ t494 t497 _ ?side1 ?side2 A13.out).mono ?_); (case side1 => exact Kd.N_V (HO493.out)); (case side2 => exact Kd.N_V (HO496.out)); rintro e w19 ⟨v498, rfl, ho0, hb⟩; have n0_ := Aside0.mk (Kd.N_elder' (by (with_reducible repeat (first | apply nA_ | apply nN_ | apply nD_)); exact HO493.out) (Kd.N_base ho0) hb); have n1_ := Aside0.mk (Kd.N_elder' (by (with_reducible repeat (first | apply nA_ | apply nN_ | apply nD_)); exact HO496.out) (Kd.N_base ho0) hb); have n2_ := Aside0.mk (Kd.N_lower (Kd.N_mono (ok' := fun k_ => True) ho0 (fun k_ hk_ => trivial)) (below_size (by repeat (first | (with_reducible first | exact HB.out | apply bA_ | apply bN_ | apply bD_) | exact HB.out)))); have n3_ := Aside0.mk (below_step (by repeat (first | (with_reducible first | exact HB.out | apply bA_ | apply bN_ | apply bD_) | exact HB.out)) hb); clear HO493; clear HO496; clear HB; have HO493 := n0_; have HO496 := n1_; have HO499 := n2_; have HB := n3_; clear n0_ n1_ n2_ n3_; (try clear hb); (try clear hb2); (try clear hk); (try clear hi); (try clear ho0))); go_upto_region 7 with (first | (go_at_call 18; (with_reducible refine (cadencelaw2_Make.calls kj4 _ _ l0 6 5 t491 _ ?side1 ?side2 A11.out).mono ?_); (case side1 => repeat (first | exact (Kd.C_below HR0.out HB.out) | (with_reducible refine cA_ ?_ _) | (with_reducible refine cN_ ?_ _) | (with_reducible refine cD_ ?_))); (case side2 => exact HC0.out); rintro e w15 ⟨v492, rfl, ho0, hb⟩; have n0_ := Aside0.mk (Kd.N_lower (Kd.N_mono (ok' := fun k_ => True) ho0 (fun k_ hk_ => trivial)) (below_size (by repeat (first | (with_reducible first | exact HB.out | apply bA_ | apply bN_ | apply bD_) | exact HB.out)))); have n1_ := Aside0.mk (below_step (by repeat (first | (with_reducible first | exact HB.out | apply bA_ | apply bN_ | apply bD_) | exact HB.out)) hb); clear HB; have HO493 := n0_; have HB := n1_; clear n0_ n1_; (try clear hb); (try clear hb2); (try clear hk); (try clear hi); (try clear ho0)) | (go_at_call 18; (with_reducible refine (cadencelaw2_Make.calls kj4 _ _ l1 6 5 t494 _ ?side1 ?side2 A12.out).mono ?_); (case side1 => repeat (first | exact (Kd.C_below HR1.out HB.out) | (with_reducible refine cA_ ?_ _) | (with_reducible refine cN_ ?_ _) | (with_reducible refine cD_ ?_))); (case side2 => exact HC1.out); rintro e w16 ⟨v495, rfl, ho0, hb⟩; have n0_ := Aside0.mk (Kd.N_elder' (by (with_reducible repeat (first | apply nA_ | apply nN_ | apply nD_)); exact HO493.out) (Kd.N_base ho0) hb); have n1_ := Aside0.mk (Kd.N_lower (Kd.N_mono (ok' := fun k_ => some k_ ≠ (v492 : Value).ownBlock) ho0 (fun k_ hk_ => (Kd.fresh' (Kd.N_lt (by (with_reducible repeat (first | apply nA_ | apply nN_ | apply nD_)); exact HO493.out)) k_ hk_))) (below_size (by repeat (first | (with_reducible first | exact HB.out | apply bA_ | apply bN_ | apply bD_) | exact HB.out)))); have n2_ := Aside0.mk (below_step (by repeat (first | (with_reducible first | exact HB.out | apply bA_ | apply bN_ | apply bD_) | exact HB.out)) hb); clear HO493; clear HB; have HO493 := n0_; have HO496 := n1_; have HB := n2_; clear n0_ n1_ n2_; (try clear hb); (try clear hb2); (try clear hk); (try clear hi); (try clear ho0); obtain ⟨Ao17, co17, eo17⟩ := Kd.N_slice HO493.out; subst eo17; obtain ⟨Ao18, co18, eo18⟩ := Kd.N_slice HO496.out; subst eo18) | (go_at_call 11; (with_reducible refine (diff_Paths.calls kj4 (fun k_ => (True ∧ some k_ ≠ (.slice Ao18 t494.length co18 : Value).ownBlock)) _ _ t491 (fun k_ => some k_ ≠ (.slice Ao17 t491.length co17 : Value).ownBlock) _ _ t494 t497 _ ?side1 ?side2 A13.out).mono ?_); (case side1 => exact Kd.N_V (HO493.out)); (case side2 => exact Kd.N_V (HO496.out)); rintro e w19 ⟨v498, rfl, ho0, hb⟩; have n0_ := Aside0.mk (Kd.N_elder' (by (with_reducible repeat (first | apply nA_ | apply nN_ | apply nD_)); exact HO493.out) (Kd.N_base ho0) hb); have n1_ := Aside0.mk (Kd.N_elder' (by (with_reducible repeat (first | apply nA_ | apply nN_ | apply nD_)); exact HO496.out) (Kd.N_base ho0) hb); have n2_ := Aside0.mk (Kd.N_lower (Kd.N_mono (ok' := fun k_ => True) ho0 (fun k_ hk_ => trivial)) (below_size (by repeat (first | (with_reducible first | exact HB.out | apply bA_ | apply bN_ | apply bD_) | exact HB.out)))); have n3_ := Aside0.mk (below_step (by repeat (first | (with_reducible first | exact HB.out | apply bA_ | apply bN_ | apply bD_) | exact HB.out)) hb); clear HO493; clear HO496; clear HB; have HO493 := n0_; have HO496 := n1_; have HO499 := n2_; have HB := n3_; clear n0_ n1_ n2_ n3_; (try clear hb); (try clear hb2); (try clear hk); (try clear hi); (try clear ho0))))
          (try simp only [Act.put, List.setIfInBounds_toArray, List.set_cons_zero, List.set_cons_succ])
          go_cut [44] (fun v44 wc => ∃ (kq : Nat) (x44_13 : Bool), v44 = .bool x44_13 ∧ Aside0 (cadencelaw13_DiffNone.j1 kq t491 t494 t497 x44_13 = some r) ∧ Aside0 (kq ≤ kj4) ∧ Aside0 (Kd.N k45 45 wc w.heap.size (fun k_ => some k_ ≠ ((.slice Ao18 t494.length co18) : Value).ownBlock ∧ some k_ ≠ (v498 : Value).ownBlock) (.slice Ao17 t491.length co17) t491) ∧ Aside0 (Kd.N k45 45 wc w.heap.size (fun k_ => some k_ ≠ ((.slice Ao17 t491.length co17) : Value).ownBlock ∧ some k_ ≠ (v498 : Value).ownBlock) (.slice Ao18 t494.length co18) t494) ∧ Aside0 (Kd.N (Kd.slice 9 Kd.string) 31 wc w.heap.size (fun _ => True) v498 t497) ∧ Aside0 (Below w.heap.size w wc))
          case first =>
            have H := HC14.out
            clear HC14
            replace H := Option.bind_eq_some_iff.mp H
            obtain ⟨t500, A200, H⟩ := H
            replace H : (if (((t497.length : Int) == 0) != t500) = true then (cadencelaw13_DiffNone.j1 kj4 t491 t494 t497 true) else ((diff_Paths.f kj4 t491 t491).bind fun t501 => (cadencelaw13_DiffNone.j1 kj4 t491 t494 t497 ((t501.length : Int) != 0)))) = some r := H
            have A20 := Aside0.mk A200
            clear A200
            by_cases c21 : (((t497.length : Int) == 0) != t500) = true
            · rw [if_pos c21] at H
              have c21b0 : (((t497.length : Int) == 0) != t500) = true := c21
              (try (have c21b1 : decide (((t497.length : Int) == 0) = t500) = false := by simpa using c21))
              (try (have c21b2 : (((t497.length : Int) == 0) == t500) = false := by simpa using c21))
              (try (have c21b3 : ¬ (((t497.length : Int) == 0) = t500) := by simpa using c21))
              clear c21
              (first | rw [c21b0] | (simp only [i64_w, i32_w]; rw [c21b0]) | skip)
              have H' := Aside0.mk H
              clear H
              obtain ⟨Ao22, co22, eo22⟩ := Kd.N_slice HO499.out
              subst eo22
              go_wp2_with (first | (go_at_call 17; (with_reducible refine (cadenceref2_Same.calls kj4 _ _ t491 _ _ t494 t500 _ ?side1 ?side2 ?side3 ?side4 A20.out).mono ?_); (case side1 => repeat (first | exact (Kd.N_reads' HO493.out).2.2 | (with_reducible refine cA_ ?_ _) | (with_reducible refine cN_ ?_ _) | (with_reducible refine cD_ ?_))); (case side2 => exact (Kd.N_reads' HO493.out).2.1); (case side3 => repeat (first | exact (Kd.N_reads' HO496.out).2.2 | (with_reducible refine cA_ ?_ _) | (with_reducible refine cN_ ?_ _) | (with_reducible refine cD_ ?_))); (case side4 => exact (Kd.N_reads' HO496.out).2.1); rintro e w23 ⟨rfl, hb⟩; have n0_ := Aside0.mk (Kd.N_below (by (with_reducible repeat (first | apply nA_ | apply nN_ | apply nD_)); exact HO493.out) hb); have n1_ := Aside0.mk (Kd.N_below (by (with_reducible repeat (first | apply nA_ | apply nN_ | apply nD_)); exact HO496.out) hb); have n2_ := Aside0.mk (Kd.N_below (by (with_reducible repeat (first | apply nA_ | apply nN_ | apply nD_)); exact HO499.out) hb); have n3_ := Aside0.mk (below_step (by repeat (first | (with_reducible first | exact HB.out | apply bA_ | apply bN_ | apply bD_) | exact HB.out)) hb); clear HO493; clear HO496; clear HO499; clear HB; have HO493 := n0_; have HO496 := n1_; have HO499 := n2_; have HB := n3_; clear n0_ n1_ n2_ n3_; (try clear hb); (try clear hb2); (try clear hk); (try clear hi)))
              repeat (go_quiet (first | (go_at_call 17; (with_reducible refine (cadenceref2_Same.calls kj4 _ _ t491 _ _ t494 t500 _ ?side1 ?side2 ?side3 ?side4 A20.out).mono ?_); (case side1 => repeat (first | exact (Kd.N_reads' HO493.out).2.2 | (with_reducible refine cA_ ?_ _) | (with_reducible refine cN_ ?_ _) | (with_reducible refine cD_ ?_))); (case side2 => exact (Kd.N_reads' HO493.out).2.1); (case side3 => repeat (first | exact (Kd.N_reads' HO496.out).2.2 | (with_reducible refine cA_ ?_ _) | (with_reducible refine cN_ ?_ _) | (with_reducible refine cD_ ?_))); (case side4 => exact (Kd.N_reads' HO496.out).2.1); rintro e w23 ⟨rfl, hb⟩; have n0_ := Aside0.mk (Kd.N_below (by (with_reducible repeat (first | apply nA_ | apply nN_ | apply nD_)); exact HO493.out) hb); have n1_ := Aside0.mk (Kd.N_below (by (with_reducible repeat (first | apply nA_ | apply nN_ | apply nD_)); exact HO496.out) hb); have n2_ := Aside0.mk (Kd.N_below (by (with_reducible repeat (first | apply nA_ | apply nN_ | apply nD_)); exact HO499.out) hb); have n3_ := Aside0.mk (below_step (by repeat (first | (with_reducible first | exact HB.out | apply bA_ | apply bN_ | apply bD_) | exact HB.out)) hb); clear HO493; clear HO496; clear HO499; clear HB; have HO493 := n0_; have HO496 := n1_; have HO499 := n2_; have HB := n3_; clear n0_ n1_ n2_ n3_; (try clear hb); (try clear hb2); (try clear hk); (try clear hi))); try go_wp2_with (first | (go_at_call 17; (with_reducible refine (cadenceref2_Same.calls kj4 _ _ t491 _ _ t494 t500 _ ?side1 ?side2 ?side3 ?side4 A20.out).mono ?_); (case side1 => repeat (first | exact (Kd.N_reads' HO493.out).2.2 | (with_reducible refine cA_ ?_ _) | (with_reducible refine cN_ ?_ _) | (with_reducible refine cD_ ?_))); (case side2 => exact (Kd.N_reads' HO493.out).2.1); (case side3 => repeat (first | exact (Kd.N_reads' HO496.out).2.2 | (with_reducible refine cA_ ?_ _) | (with_reducible refine cN_ ?_ _) | (with_reducible refine cD_ ?_))); (case side4 => exact (Kd.N_reads' HO496.out).2.1); rintro e w23 ⟨rfl, hb⟩; have n0_ := Aside0.mk (Kd.N_below (by (with_reducible repeat (first | apply nA_ | apply nN_ | apply nD_)); exact HO493.out) hb); have n1_ := Aside0.mk (Kd.N_below (by (with_reducible repeat (first | apply nA_ | apply nN_ | apply nD_)); exact HO496.out) hb); have n2_ := Aside0.mk (Kd.N_below (by (with_reducible repeat (first | apply nA_ | apply nN_ | apply nD_)); exact HO499.out) hb); have n3_ := Aside0.mk (below_step (by repeat (first | (with_reducible first | exact HB.out | apply bA_ | apply bN_ | apply bD_) | exact HB.out)) hb); clear HO493; clear HO496; clear HO499; clear HB; have HO493 := n0_; have HO496 := n1_; have HO499 := n2_; have HB := n3_; clear n0_ n1_ n2_ n3_; (try clear hb); (try clear hb2); (try clear hk); (try clear hi))))
              go_meet
              case rel => exact ⟨_, (true), (by first | rfl | (simp; done) | (simp [*]; done)), H', ⟨by have := HJ4.out; first | omega | exact Nat.le_refl _⟩, ⟨by (with_reducible repeat (first | apply nA_ | apply nN_ | apply nD_)); exact Kd.N_mono HO493.out (fun _ hk => ⟨hk.1.2, hk.2⟩)⟩, ⟨by (with_reducible repeat (first | apply nA_ | apply nN_ | apply nD_)); exact HO496.out⟩, ⟨by (with_reducible repeat (first | apply nA_ | apply nN_ | apply nD_)); exact HO499.out⟩, ⟨by repeat (first | (with_reducible first | exact HB.out | apply bA_ | apply bN_ | apply bD_) | exact HB.out)⟩⟩
            · rw [if_neg c21] at H
              have c21b0 : (((t497.length : Int) == 0) != t500) = false := by simpa using c21
              (try (have c21b1 : decide (((t497.length : Int) == 0) = t500) = true := by simpa using c21))
              (try (have c21b2 : (((t497.length : Int) == 0) == t500) = true := by simpa using c21))
              clear c21
              (first | rw [c21b0] | (simp only [i64_w, i32_w]; rw [c21b0]) | skip)
              replace H := Option.bind_eq_some_iff.mp H
              obtain ⟨t501, A240, H⟩ := H
              replace H : (cadencelaw13_DiffNone.j1 kj4 t491 t494 t497 ((t501.length : Int) != 0)) = some r := H
              have A24 := Aside0.mk A240
              clear A240
              have H' := Aside0.mk H
              clear H
              obtain ⟨Ao25, co25, eo25⟩ := Kd.N_slice HO499.out
              subst eo25
              go_wp2_with (first | (go_at_call 17; (with_reducible refine (cadenceref2_Same.calls kj4 _ _ t491 _ _ t494 t500 _ ?side1 ?side2 ?side3 ?side4 A20.out).mono ?_); (case side1 => repeat (first | exact (Kd.N_reads' HO493.out).2.2 | (with_reducible refine cA_ ?_ _) | (with_reducible refine cN_ ?_ _) | (with_reducible refine cD_ ?_))); (case side2 => exact (Kd.N_reads' HO493.out).2.1); (case side3 => repeat (first | exact (Kd.N_reads' HO496.out).2.2 | (with_reducible refine cA_ ?_ _) | (with_reducible refine cN_ ?_ _) | (with_reducible refine cD_ ?_))); (case side4 => exact (Kd.N_reads' HO496.out).2.1); rintro e w26 ⟨rfl, hb⟩; have n0_ := Aside0.mk (Kd.N_below (by (with_reducible repeat (first | apply nA_ | apply nN_ | apply nD_)); exact HO493.out) hb); have n1_ := Aside0.mk (Kd.N_below (by (with_reducible repeat (first | apply nA_ | apply nN_ | apply nD_)); exact HO496.out) hb); have n2_ := Aside0.mk (Kd.N_below (by (with_reducible repeat (first | apply nA_ | apply nN_ | apply nD_)); exact HO499.out) hb); have n3_ := Aside0.mk (below_step (by repeat (first | (with_reducible first | exact HB.out | apply bA_ | apply bN_ | apply bD_) | exact HB.out)) hb); clear HO493; clear HO496; clear HO499; clear HB; have HO493 := n0_; have HO496 := n1_; have HO499 := n2_; have HB := n3_; clear n0_ n1_ n2_ n3_; (try clear hb); (try clear hb2); (try clear hk); (try clear hi)) | (go_at_call 11; (with_reducible refine (diff_Paths.calls kj4 (fun k_ => ((True ∧ some k_ ≠ (.slice Ao18 t494.length co18 : Value).ownBlock) ∧ some k_ ≠ (.slice Ao25 t497.length co25 : Value).ownBlock)) _ _ t491 (fun k_ => ((True ∧ some k_ ≠ (.slice Ao18 t494.length co18 : Value).ownBlock) ∧ some k_ ≠ (.slice Ao25 t497.length co25 : Value).ownBlock)) _ _ t491 t501 _ ?side1 ?side2 A24.out).mono ?_); (case side1 => exact Kd.N_V (HO493.out)); (case side2 => exact Kd.N_V (HO493.out)); rintro e w27 ⟨v502, rfl, ho0, hb⟩; have n0_ := Aside0.mk (Kd.N_elder' (by (with_reducible repeat (first | apply nA_ | apply nN_ | apply nD_)); exact HO493.out) (Kd.N_base ho0) hb); have n1_ := Aside0.mk (Kd.N_elder' (by (with_reducible repeat (first | apply nA_ | apply nN_ | apply nD_)); exact HO496.out) (Kd.N_base ho0) hb); have n2_ := Aside0.mk (Kd.N_elder' (by (with_reducible repeat (first | apply nA_ | apply nN_ | apply nD_)); exact HO499.out) (Kd.N_base ho0) hb); have n3_ := Aside0.mk (Kd.N_lower (Kd.N_mono (ok' := fun k_ => some k_ ≠ (.slice Ao18 t494.length co18 : Value).ownBlock ∧ some k_ ≠ (.slice Ao25 t497.length co25 : Value).ownBlock) ho0 (fun k_ hk_ => ⟨Or.elim hk_ (fun hs_ => Or.elim hs_ (fun hs_ => hs_.1.2) (fun hs_ => hs_.1.2)) (fun hn_ => (Kd.fresh' (Kd.N_lt (by (with_reducible repeat (first | apply nA_ | apply nN_ | apply nD_)); exact HO496.out)) k_ hn_)), Or.elim hk_ (fun hs_ => Or.elim hs_ (fun hs_ => hs_.2) (fun hs_ => hs_.2)) (fun hn_ => (Kd.fresh' (Kd.N_lt (by (with_reducible repeat (first | apply nA_ | apply nN_ | apply nD_)); exact HO499.out)) k_ hn_))⟩)) (below_size (by repeat (first | (with_reducible first | exact HB.out | apply bA_ | apply bN_ | apply bD_) | exact HB.out)))); have n4_ := Aside0.mk (below_step (by repeat (first | (with_reducible first | exact HB.out | apply bA_ | apply bN_ | apply bD_) | exact HB.out)) hb); clear HO493; clear HO496; clear HO499; clear HB; have HO493 := n0_; have HO496 := n1_; have HO499 := n2_; have HO503 := n3_; have HB := n4_; clear n0_ n1_ n2_ n3_ n4_; (try clear hb); (try clear hb2); (try clear hk); (try clear hi); (try clear ho0); obtain ⟨Ao28, co28, eo28⟩ := Kd.N_slice HO503.out; subst eo28))
              repeat (go_quiet (first | (go_at_call 17; (with_reducible refine (cadenceref2_Same.calls kj4 _ _ t491 _ _ t494 t500 _ ?side1 ?side2 ?side3 ?side4 A20.out).mono ?_); (case side1 => repeat (first | exact (Kd.N_reads' HO493.out).2.2 | (with_reducible refine cA_ ?_ _) | (with_reducible refine cN_ ?_ _) | (with_reducible refine cD_ ?_))); (case side2 => exact (Kd.N_reads' HO493.out).2.1); (case side3 => repeat (first | exact (Kd.N_reads' HO496.out).2.2 | (with_reducible refine cA_ ?_ _) | (with_reducible refine cN_ ?_ _) | (with_reducible refine cD_ ?_))); (case side4 => exact (Kd.N_reads' HO496.out).2.1); rintro e w26 ⟨rfl, hb⟩; have n0_ := Aside0.mk (Kd.N_below (by (with_reducible repeat (first | apply nA_ | apply nN_ | apply nD_)); exact HO493.out) hb); have n1_ := Aside0.mk (Kd.N_below (by (with_reducible repeat (first | apply nA_ | apply nN_ | apply nD_)); exact HO496.out) hb); have n2_ := Aside0.mk (Kd.N_below (by (with_reducible repeat (first | apply nA_ | apply nN_ | apply nD_)); exact HO499.out) hb); have n3_ := Aside0.mk (below_step (by repeat (first | (with_reducible first | exact HB.out | apply bA_ | apply bN_ | apply bD_) | exact HB.out)) hb); clear HO493; clear HO496; clear HO499; clear HB; have HO493 := n0_; have HO496 := n1_; have HO499 := n2_; have HB := n3_; clear n0_ n1_ n2_ n3_; (try clear hb); (try clear hb2); (try clear hk); (try clear hi)) | (go_at_call 11; (with_reducible refine (diff_Paths.calls kj4 (fun k_ => ((True ∧ some k_ ≠ (.slice Ao18 t494.length co18 : Value).ownBlock) ∧ some k_ ≠ (.slice Ao25 t497.length co25 : Value).ownBlock)) _ _ t491 (fun k_ => ((True ∧ some k_ ≠ (.slice Ao18 t494.length co18 : Value).ownBlock) ∧ some k_ ≠ (.slice Ao25 t497.length co25 : Value).ownBlock)) _ _ t491 t501 _ ?side1 ?side2 A24.out).mono ?_); (case side1 => exact Kd.N_V (HO493.out)); (case side2 => exact Kd.N_V (HO493.out)); rintro e w27 ⟨v502, rfl, ho0, hb⟩; have n0_ := Aside0.mk (Kd.N_elder' (by (with_reducible repeat (first | apply nA_ | apply nN_ | apply nD_)); exact HO493.out) (Kd.N_base ho0) hb); have n1_ := Aside0.mk (Kd.N_elder' (by (with_reducible repeat (first | apply nA_ | apply nN_ | apply nD_)); exact HO496.out) (Kd.N_base ho0) hb); have n2_ := Aside0.mk (Kd.N_elder' (by (with_reducible repeat (first | apply nA_ | apply nN_ | apply nD_)); exact HO499.out) (Kd.N_base ho0) hb); have n3_ := Aside0.mk (Kd.N_lower (Kd.N_mono (ok' := fun k_ => some k_ ≠ (.slice Ao18 t494.length co18 : Value).ownBlock ∧ some k_ ≠ (.slice Ao25 t497.length co25 : Value).ownBlock) ho0 (fun k_ hk_ => ⟨Or.elim hk_ (fun hs_ => Or.elim hs_ (fun hs_ => hs_.1.2) (fun hs_ => hs_.1.2)) (fun hn_ => (Kd.fresh' (Kd.N_lt (by (with_reducible repeat (first | apply nA_ | apply nN_ | apply nD_)); exact HO496.out)) k_ hn_)), Or.elim hk_ (fun hs_ => Or.elim hs_ (fun hs_ => hs_.2) (fun hs_ => hs_.2)) (fun hn_ => (Kd.fresh' (Kd.N_lt (by (with_reducible repeat (first | apply nA_ | apply nN_ | apply nD_)); exact HO499.out)) k_ hn_))⟩)) (below_size (by repeat (first | (with_reducible first | exact HB.out | apply bA_ | apply bN_ | apply bD_) | exact HB.out)))); have n4_ := Aside0.mk (below_step (by repeat (first | (with_reducible first | exact HB.out | apply bA_ | apply bN_ | apply bD_) | exact HB.out)) hb); clear HO493; clear HO496; clear HO499; clear HB; have HO493 := n0_; have HO496 := n1_; have HO499 := n2_; have HO503 := n3_; have HB := n4_; clear n0_ n1_ n2_ n3_ n4_; (try clear hb); (try clear hb2); (try clear hk); (try clear hi); (try clear ho0); obtain ⟨Ao28, co28, eo28⟩ := Kd.N_slice HO503.out; subst eo28)); try go_wp2_with (first | (go_at_call 17; (with_reducible refine (cadenceref2_Same.calls kj4 _ _ t491 _ _ t494 t500 _ ?side1 ?side2 ?side3 ?side4 A20.out).mono ?_); (case side1 => repeat (first | exact (Kd.N_reads' HO493.out).2.2 | (with_reducible refine cA_ ?_ _) | (with_reducible refine cN_ ?_ _) | (with_reducible refine cD_ ?_))); (case side2 => exact (Kd.N_reads' HO493.out).2.1); (case side3 => repeat (first | exact (Kd.N_reads' HO496.out).2.2 | (with_reducible refine cA_ ?_ _) | (with_reducible refine cN_ ?_ _) | (with_reducible refine cD_ ?_))); (case side4 => exact (Kd.N_reads' HO496.out).2.1); rintro e w26 ⟨rfl, hb⟩; have n0_ := Aside0.mk (Kd.N_below (by (with_reducible repeat (first | apply nA_ | apply nN_ | apply nD_)); exact HO493.out) hb); have n1_ := Aside0.mk (Kd.N_below (by (with_reducible repeat (first | apply nA_ | apply nN_ | apply nD_)); exact HO496.out) hb); have n2_ := Aside0.mk (Kd.N_below (by (with_reducible repeat (first | apply nA_ | apply nN_ | apply nD_)); exact HO499.out) hb); have n3_ := Aside0.mk (below_step (by repeat (first | (with_reducible first | exact HB.out | apply bA_ | apply bN_ | apply bD_) | exact HB.out)) hb); clear HO493; clear HO496; clear HO499; clear HB; have HO493 := n0_; have HO496 := n1_; have HO499 := n2_; have HB := n3_; clear n0_ n1_ n2_ n3_; (try clear hb); (try clear hb2); (try clear hk); (try clear hi)) | (go_at_call 11; (with_reducible refine (diff_Paths.calls kj4 (fun k_ => ((True ∧ some k_ ≠ (.slice Ao18 t494.length co18 : Value).ownBlock) ∧ some k_ ≠ (.slice Ao25 t497.length co25 : Value).ownBlock)) _ _ t491 (fun k_ => ((True ∧ some k_ ≠ (.slice Ao18 t494.length co18 : Value).ownBlock) ∧ some k_ ≠ (.slice Ao25 t497.length co25 : Value).ownBlock)) _ _ t491 t501 _ ?side1 ?side2 A24.out).mono ?_); (case side1 => exact Kd.N_V (HO493.out)); (case side2 => exact Kd.N_V (HO493.out)); rintro e w27 ⟨v502, rfl, ho0, hb⟩; have n0_ := Aside0.mk (Kd.N_elder' (by (with_reducible repeat (first | apply nA_ | apply nN_ | apply nD_)); exact HO493.out) (Kd.N_base ho0) hb); have n1_ := Aside0.mk (Kd.N_elder' (by (with_reducible repeat (first | apply nA_ | apply nN_ | apply nD_)); exact HO496.out) (Kd.N_base ho0) hb); have n2_ := Aside0.mk (Kd.N_elder' (by (with_reducible repeat (first | apply nA_ | apply nN_ | apply nD_)); exact HO499.out) (Kd.N_base ho0) hb); have n3_ := Aside0.mk (Kd.N_lower (Kd.N_mono (ok' := fun k_ => some k_ ≠ (.slice Ao18 t494.length co18 : Value).ownBlock ∧ some k_ ≠ (.slice Ao25 t497.length co25 : Value).ownBlock) ho0 (fun k_ hk_ => ⟨Or.elim hk_ (fun hs_ => Or.elim hs_ (fun hs_ => hs_.1.2) (fun hs_ => hs_.1.2)) (fun hn_ => (Kd.fresh' (Kd.N_lt (by (with_reducible repeat (first | apply nA_ | apply nN_ | apply nD_)); exact HO496.out)) k_ hn_)), Or.elim hk_ (fun hs_ => Or.elim hs_ (fun hs_ => hs_.2) (fun hs_ => hs_.2)) (fun hn_ => (Kd.fresh' (Kd.N_lt (by (with_reducible repeat (first | apply nA_ | apply nN_ | apply nD_)); exact HO499.out)) k_ hn_))⟩)) (below_size (by repeat (first | (with_reducible first | exact HB.out | apply bA_ | apply bN_ | apply bD_) | exact HB.out)))); have n4_ := Aside0.mk (below_step (by repeat (first | (with_reducible first | exact HB.out | apply bA_ | apply bN_ | apply bD_) | exact HB.out)) hb); clear HO493; clear HO496; clear HO499; clear HB; have HO493 := n0_; have HO496 := n1_; have HO499 := n2_; have HO503 := n3_; have HB := n4_; clear n0_ n1_ n2_ n3_ n4_; (try clear hb); (try clear hb2); (try clear hk); (try clear hi); (try clear ho0); obtain ⟨Ao28, co28, eo28⟩ := Kd.N_slice HO503.out; subst eo28)))
              go_meet
              case rel => exact ⟨_, (((t501.length : Int) != 0)), (by first | rfl | (simp; done) | (simp [*]; done)), H', ⟨by have := HJ4.out; first | omega | exact Nat.le_refl _⟩, ⟨by (with_reducible repeat (first | apply nA_ | apply nN_ | apply nD_)); exact Kd.N_mono HO493.out (fun _ hk => ⟨hk.1.1.2, hk.1.2⟩)⟩, ⟨by (with_reducible repeat (first | apply nA_ | apply nN_ | apply nD_)); exact Kd.N_mono HO496.out (fun _ hk => ⟨hk.1.1, hk.1.2⟩)⟩, ⟨by (with_reducible repeat (first | apply nA_ | apply nN_ | apply nD_)); exact Kd.N_mono HO499.out (fun _ hk => trivial)⟩, ⟨by repeat (first | (with_reducible first | exact HB.out | apply bA_ | apply bN_ | apply bD_) | exact HB.out)⟩⟩
          case rest =>
            clear HC14
            try clear c1
            try clear c2
            try clear p2
            try clear c4
            try clear c5
            try clear c8
            try clear c10
            try clear c21
            try clear c21b0
            try clear c21b1
            try clear c21b2
            try clear p2
            obtain ⟨kq, x44_13, rfl, HA, HJ13, HO_5, HO_6, HO_7, HB⟩ := hcut
            cases kq with
            | zero => exact absurd HA.out (by simp [cadencelaw13_DiffNone.j1])
            | succ kj13 =>
              have H := HA.out
              clear HA
              simp only [cadencelaw13_DiffNone.j1] at H
              by_cases c29 : x44_13 = true
              · subst c29
                have H1 : (some false) = some r := by rw [if_pos rfl] at H; exact H
                clear H
                have H := H1
                clear H1
                obtain rfl := Option.some.inj H
                go_wp2
                repeat (go_quiet (fail); try go_wp2)
                go_ret
                exact ⟨by first | rfl | (simp [errW_none, errW_some] <;> rfl) | (simp [*, errW_none, errW_some] <;> rfl), by repeat (first | (with_reducible first | exact HB.out | apply bA_ | apply bN_ | apply bD_) | exact HB.out)⟩
              · replace c29 := Bool.eq_false_iff.mpr c29
                subst c29
                have H1 : (cadencelaw13_DiffNone.l0 kj13 t491 t494 t497 0) = some r := by rw [if_neg (show ¬ (false = true) by decide)] at H; exact H
                clear H
                have H := H1
                clear H1
                have H' := Aside0.mk H
                clear H
                go_wp2
                repeat (go_quiet (fail); try go_wp2)
                go_loopg [8] kj13 (fun kq v8 w' => ∃ (x8_3 : Int), v8 = .int .i64 x8_3 ∧ Aside0 (cadencelaw13_DiffNone.l0 kq t491 t494 t497 x8_3 = some r) ∧ Aside0 (kq ≤ kj13) ∧ Aside0 (Kd.N k45 45 w' w.heap.size (fun k_ => some k_ ≠ ((.slice Ao18 t494.length co18) : Value).ownBlock ∧ some k_ ≠ (v498 : Value).ownBlock) (.slice Ao17 t491.length co17) t491) ∧ Aside0 (Kd.N k45 45 w' w.heap.size (fun k_ => some k_ ≠ ((.slice Ao17 t491.length co17) : Value).ownBlock ∧ some k_ ≠ (v498 : Value).ownBlock) (.slice Ao18 t494.length co18) t494) ∧ Aside0 (Kd.N (Kd.slice 9 Kd.string) 31 w' w.heap.size (fun _ => True) v498 t497) ∧ Aside0 (Below w.heap.size w w'))
                case atStart => exact ⟨(0), (by first | rfl | (simp; done) | (simp [*]; done)), H', ⟨Nat.le_refl _⟩, ⟨by (with_reducible repeat (first | apply nA_ | apply nN_ | apply nD_)); exact HO_5.out⟩, ⟨by (with_reducible repeat (first | apply nA_ | apply nN_ | apply nD_)); exact HO_6.out⟩, ⟨by (with_reducible repeat (first | apply nA_ | apply nN_ | apply nD_)); exact HO_7.out⟩, ⟨by repeat (first | (with_reducible first | exact HB.out | apply bA_ | apply bN_ | apply bD_) | exact HB.out)⟩⟩
                case round =>
                  clear H'
                  try clear c1
                  try clear c2
                  try clear p2
                  try clear c4
                  try clear c5
                  try clear c8
                  try clear c10
                  try clear c21
                  try clear c21b0
                  try clear c21b1
                  try clear c21b2
                  try clear c29
                  try clear p2
                  obtain ⟨x8_3, rfl, HA, HK3, HO_5, HO_6, HO_7, HB⟩ := hrel
                  cases gk with
                  | zero => exact absurd HA.out (by simp [cadencelaw13_DiffNone.l0])
                  | succ k3 =>
                    have H := HA.out
                    clear HA
                    simp only [cadencelaw13_DiffNone.l0] at H
                    by_cases c30 : x8_3 < (t497.length : Int)
                    · rw [if_pos c30] at H
                      have c30b0 : decide (x8_3 < (t497.length : Int)) = true := decide_eq_true c30
                      clear c30
                      by_cases c31 : 0 ≤ x8_3
                      · rw [if_pos c31] at H
                        have c31b0 : decide (0 ≤ x8_3) = true := decide_eq_true c31
                        clear c31
                        by_cases c32 : ((rd_L1 t497 x8_3).length : Int) = 0
                        · rw [if_pos c32] at H
                          have c32b0 : (((rd_L1 t497 x8_3).length : Int) == 0) = true := beq_iff_eq.mpr c32
                          have c32b1 : (((rd_L1 t497 x8_3).length : Int) != 0) = false := bne_eq_false_iff_eq.mpr c32
                          clear c32
                          obtain rfl := Option.some.inj H
                          obtain ⟨Ao33, co33, eo33⟩ := Kd.N_slice HO_7.out
                          subst eo33
                          have p504 : 0 ≤ (x8_3 : Int) := of_decide_eq_true (by first | (with_reducible assumption) | assumption)
                          have q504 : x8_3 < (t497.length : Int) := of_decide_eq_true (by first | (with_reducible assumption) | assumption)
                          obtain ⟨ad504, A504_0, c504_0, e504, hx504_0, hl504_0, hi504_0⟩ := at_L1 (Kd.N_reads' HO_7.out).2.2 x8_3 p504 q504
                          cases e504
                          obtain ⟨ce504, hce504, hMe504, hcc504⟩ := Kd.N_get HO_7.out [] x8_3 p504 (by first | exact q504 | exact of_decide_eq_true (by first | (with_reducible assumption) | assumption) | (have e_ := (Kd.N_reads' HO_7.out).1; omega))
                          obtain ⟨ua504_0, uc504_0, rfl, ul504_0, ge504_0⟩ := Kd.FK_slice_open hMe504
                          have hv504_0 := hcc504 0 _ rfl
                          rw [Nat.add_zero, show ((Kd.slice 9 Kd.string)).sz = 1 from rfl, Nat.mul_one] at hv504_0
                          replace hv504_0 := Option.some.inj (hv504_0.symm.trans hx504_0)
                          injection hv504_0 with hva_ hvn_ hvc_
                          rw [hva_] at ge504_0
                          rw [hvc_] at ul504_0
                          have HL504_0 := Aside0.mk (show Kd.V Kd.string 9 _ w.heap.size _ _ (rd_L1 t497 x8_3) from Kd.V_mk ul504_0 ge504_0)
                          clear hva_ hvn_ hvc_ ge504_0 ul504_0
                          clear hcc504 hce504
                          have HR504_0 := Aside0.mk hi504_0
                          have HC504_0 := Aside0.mk hl504_0
                          clear hi504_0 hl504_0
                          replace p504 := eq_true p504
                          replace q504 := eq_true q504
                          go_wp2
                          repeat (go_quiet (fail); try go_wp2)
                          go_ret
                          exact ⟨by first | rfl | (simp [errW_none, errW_some] <;> rfl) | (simp [*, errW_none, errW_some] <;> rfl), by repeat (first | (with_reducible first | exact HB.out | apply bA_ | apply bN_ | apply bD_) | exact HB.out)⟩
                        · rw [if_neg c32] at H
                          have c32b0 : (((rd_L1 t497 x8_3).length : Int) == 0) = false := beq_eq_false_iff_ne.mpr c32
                          have c32b1 : (((rd_L1 t497 x8_3).length : Int) != 0) = true := bne_iff_ne.mpr c32
                          have c32b2 : ¬ ((rd_L1 t497 x8_3) = []) := fun h_ => c32 (by rw [h_]; rfl)
                          replace H := Option.bind_eq_some_iff.mp H
                          obtain ⟨⟨t506, t509⟩, A340, H⟩ := H
                          replace H : ((cadenceref2_Get.f k3 t494 (rd_L1 t497 x8_3)).bind fun bt511 => (if (t509 == bt511.2) = true then (some false) else (cadencelaw13_DiffNone.l1 k3 t491 t494 t497 x8_3 0))) = some r := H
                          have A34 := Aside0.mk A340
                          clear A340
                          replace H := Option.bind_eq_some_iff.mp H
                          obtain ⟨⟨t511, t514⟩, A350, H⟩ := H
                          replace H : (if (t509 == t514) = true then (some false) else (cadencelaw13_DiffNone.l1 k3 t491 t494 t497 x8_3 0)) = some r := H
                          have A35 := Aside0.mk A350
                          clear A350
                          by_cases c36 : (t509 == t514) = true
                          · rw [if_pos c36] at H
                            have c36b0 : (t509 == t514) = true := c36
                            (try (have c36b1 : decide (t509 = t514) = true := by simpa using c36))
                            (try (have c36b2 : (t509 == t514) = true := by simpa using c36))
                            clear c36
                            obtain rfl := Option.some.inj H
                            obtain ⟨Ao37, co37, eo37⟩ := Kd.N_slice HO_7.out
                            subst eo37
                            have p504 : 0 ≤ (x8_3 : Int) := of_decide_eq_true (by first | (with_reducible assumption) | assumption)
                            have q504 : x8_3 < (t497.length : Int) := of_decide_eq_true (by first | (with_reducible assumption) | assumption)
                            obtain ⟨ad504, A504_0, c504_0, e504, hx504_0, hl504_0, hi504_0⟩ := at_L1 (Kd.N_reads' HO_7.out).2.2 x8_3 p504 q504
                            cases e504
                            obtain ⟨ce504, hce504, hMe504, hcc504⟩ := Kd.N_get HO_7.out [] x8_3 p504 (by first | exact q504 | exact of_decide_eq_true (by first | (with_reducible assumption) | assumption) | (have e_ := (Kd.N_reads' HO_7.out).1; omega))
                            obtain ⟨ua504_0, uc504_0, rfl, ul504_0, ge504_0⟩ := Kd.FK_slice_open hMe504
                            have hv504_0 := hcc504 0 _ rfl
                            rw [Nat.add_zero, show ((Kd.slice 9 Kd.string)).sz = 1 from rfl, Nat.mul_one] at hv504_0
                            replace hv504_0 := Option.some.inj (hv504_0.symm.trans hx504_0)
                            injection hv504_0 with hva_ hvn_ hvc_
                            rw [hva_] at ge504_0
                            rw [hvc_] at ul504_0
                            have HL504_0 := Aside0.mk (show Kd.V Kd.string 9 _ w.heap.size _ _ (rd_L1 t497 x8_3) from Kd.V_mk ul504_0 ge504_0)
                            clear hva_ hvn_ hvc_ ge504_0 ul504_0
                            clear hcc504 hce504
                            have HR504_0 := Aside0.mk hi504_0
                            have HC504_0 := Aside0.mk hl504_0
                            clear hi504_0 hl504_0
                            replace p504 := eq_true p504
                            replace q504 := eq_true q504
                            have p505 : 0 ≤ (x8_3 : Int) := of_decide_eq_true (by first | (with_reducible assumption) | assumption)
                            have q505 : x8_3 < (t497.length : Int) := of_decide_eq_true (by first | (with_reducible assumption) | assumption)
                            obtain ⟨ad505, A505_0, c505_0, e505, hx505_0, hl505_0, hi505_0⟩ := at_L1 (Kd.N_reads' HO_7.out).2.2 x8_3 p505 q505
                            obtain rfl : ad504 = ad505 := (by injection e505)
                            obtain ⟨ce505, hce505, hMe505, hcc505⟩ := Kd.N_get HO_7.out [] x8_3 p505 (by first | exact q505 | exact of_decide_eq_true (by first | (with_reducible assumption) | assumption) | (have e_ := (Kd.N_reads' HO_7.out).1; omega))
                            obtain ⟨ua505_0, uc505_0, rfl, ul505_0, ge505_0⟩ := Kd.FK_slice_open hMe505
                            have hv505_0 := hcc505 0 _ rfl
                            rw [Nat.add_zero, show ((Kd.slice 9 Kd.string)).sz = 1 from rfl, Nat.mul_one] at hv505_0
                            replace hv505_0 := Option.some.inj (hv505_0.symm.trans hx505_0)
                            injection hv505_0 with hva_ hvn_ hvc_
                            rw [hva_] at ge505_0
                            rw [hvc_] at ul505_0
                            have HL505_0 := Aside0.mk (show Kd.V Kd.string 9 _ w.heap.size _ _ (rd_L1 t497 x8_3) from Kd.V_mk ul505_0 ge505_0)
                            clear hva_ hvn_ hvc_ ge505_0 ul505_0
                            clear hcc505 hce505
                            have HR505_0 := Aside0.mk hi505_0
                            have HC505_0 := Aside0.mk hl505_0
                            clear hi505_0 hl505_0
                            replace p505 := eq_true p505
                            replace q505 := eq_true q505
                            have ea_ := Option.some.inj (hx504_0.symm.trans hx505_0)
                            injection ea_ with ea_ en_ ec_
                            subst ea_
                            subst ec_
                            clear en_
                            go_wp2_with (first | (go_at_call 14; (with_reducible refine (cadenceref2_Get.calls k3 (fun k_ => (some k_ ≠ (.slice Ao18 t494.length co18 : Value).ownBlock ∧ some k_ ≠ (.slice (some ad504) t497.length co37 : Value).ownBlock)) _ _ t491 _ _ (rd_L1 t497 x8_3) t506 t509 _ ?side1 ?side2 ?side3 A34.out).mono ?_); (case side1 => exact Kd.N_V (HO_5.out)); (case side2 => repeat (first | exact (by repeat (first | (with_reducible exact HR505_0.out) | (with_reducible refine cA_ ?_ _) | (with_reducible refine cN_ ?_ _) | (with_reducible refine cD_ ?_) | exact HR505_0.out)) | (with_reducible refine cA_ ?_ _) | (with_reducible refine cN_ ?_ _) | (with_reducible refine cD_ ?_))); (case side3 => exact HC505_0.out); rintro e w38 ⟨v507, rfl, ho0, hb⟩; have n0_ := Aside0.mk (Kd.N_below (by (with_reducible repeat (first | apply nA_ | apply nN_ | apply nD_)); exact HO_5.out) hb); have n1_ := Aside0.mk (Kd.N_below (by (with_reducible repeat (first | apply nA_ | apply nN_ | apply nD_)); exact HO_6.out) hb); have n2_ := Aside0.mk (Kd.N_below (by (with_reducible repeat (first | apply nA_ | apply nN_ | apply nD_)); exact HO_7.out) hb); have n3_ := Aside0.mk (Kd.V_below (by (with_reducible repeat (first | apply vA_ | apply vN_ | apply vD_)); exact HL504_0.out) hb); have n4_ := Aside0.mk (Kd.V_below (by (with_reducible repeat (first | apply vA_ | apply vN_ | apply vD_)); exact HL505_0.out) hb); have n5_ := Aside0.mk (Kd.V_lower (Kd.V_mono (ok' := fun k_ => some k_ ≠ (.slice Ao18 t494.length co18 : Value).ownBlock ∧ some k_ ≠ (.slice (some ad504) t497.length co37 : Value).ownBlock) ho0 (fun k_ hk_ => ⟨Or.elim hk_ (fun hs_ => hs_.1) (fun hn_ => (Kd.fresh' (Kd.N_lt (by (with_reducible repeat (first | apply nA_ | apply nN_ | apply nD_)); exact HO_6.out)) k_ hn_)), Or.elim hk_ (fun hs_ => hs_.2) (fun hn_ => (Kd.fresh' (Kd.N_lt (by (with_reducible repeat (first | apply nA_ | apply nN_ | apply nD_)); exact HO_7.out)) k_ hn_))⟩)) (below_size (by repeat (first | (with_reducible first | exact HB.out | apply bA_ | apply bN_ | apply bD_) | exact HB.out)))); have n6_ := Aside0.mk (Kd.C_below (by repeat (first | (with_reducible exact HR504_0.out) | (with_reducible refine cA_ ?_ _) | (with_reducible refine cN_ ?_ _) | (with_reducible refine cD_ ?_) | exact HR504_0.out)) hb); have n7_ := Aside0.mk (Kd.C_below (by repeat (first | (with_reducible exact HR505_0.out) | (with_reducible refine cA_ ?_ _) | (with_reducible refine cN_ ?_ _) | (with_reducible refine cD_ ?_) | exact HR505_0.out)) hb); have n8_ := Aside0.mk (below_step (by repeat (first | (with_reducible first | exact HB.out | apply bA_ | apply bN_ | apply bD_) | exact HB.out)) hb); clear HO_5; clear HO_6; clear HO_7; clear HL504_0; clear HL505_0; clear HR504_0; clear HR505_0; clear HB; have HO_5 := n0_; have HO_6 := n1_; have HO_7 := n2_; have HL504_0 := n3_; have HL505_0 := n4_; have HO508 := n5_; have HR504_0 := n6_; have HR505_0 := n7_; have HB := n8_; clear n0_ n1_ n2_ n3_ n4_ n5_ n6_ n7_ n8_; (try clear hb); (try clear hb2); (try clear hk); (try clear hi); (try clear ho0); have p510 : 0 ≤ (x8_3 : Int) := of_decide_eq_true (by first | (with_reducible assumption) | assumption); have q510 : x8_3 < (t497.length : Int) := of_decide_eq_true (by first | (with_reducible assumption) | assumption); obtain ⟨ad510, A510_0, c510_0, e510, hx510_0, hl510_0, hi510_0⟩ := at_L1 (Kd.N_reads' HO_7.out).2.2 x8_3 p510 q510; obtain rfl : ad504 = ad510 := (by injection e510); obtain ⟨ce510, hce510, hMe510, hcc510⟩ := Kd.N_get HO_7.out [] x8_3 p510 (by first | exact q510 | exact of_decide_eq_true (by first | (with_reducible assumption) | assumption) | (have e_ := (Kd.N_reads' HO_7.out).1; omega)); obtain ⟨ua510_0, uc510_0, rfl, ul510_0, ge510_0⟩ := Kd.FK_slice_open hMe510; have hv510_0 := hcc510 0 _ rfl; rw [Nat.add_zero, show ((Kd.slice 9 Kd.string)).sz = 1 from rfl, Nat.mul_one] at hv510_0; replace hv510_0 := Option.some.inj (hv510_0.symm.trans hx510_0); injection hv510_0 with hva_ hvn_ hvc_; rw [hva_] at ge510_0; rw [hvc_] at ul510_0; have HL510_0 := Aside0.mk (show Kd.V Kd.string 9 _ w.heap.size _ _ (rd_L1 t497 x8_3) from Kd.V_mk ul510_0 ge510_0); clear hva_ hvn_ hvc_ ge510_0 ul510_0; clear hcc510 hce510; have HR510_0 := Aside0.mk hi510_0; have HC510_0 := Aside0.mk hl510_0; clear hi510_0 hl510_0; replace p510 := eq_true p510; replace q510 := eq_true q510) | (go_at_call 14; (with_reducible refine (cadenceref2_Get.calls k3 (fun k_ => (some k_ ≠ (.slice Ao17 t491.length co17 : Value).ownBlock ∧ some k_ ≠ (.slice (some ad504) t497.length co37 : Value).ownBlock)) _ _ t494 _ _ (rd_L1 t497 x8_3) t511 t514 _ ?side1 ?side2 ?side3 A35.out).mono ?_); (case side1 => exact Kd.N_V (HO_6.out)); (case side2 => repeat (first | exact (by repeat (first | (with_reducible exact HR510_0.out) | (with_reducible refine cA_ ?_ _) | (with_reducible refine cN_ ?_ _) | (with_reducible refine cD_ ?_) | exact HR510_0.out)) | (with_reducible refine cA_ ?_ _) | (with_reducible refine cN_ ?_ _) | (with_reducible refine cD_ ?_))); (case side3 => exact HC510_0.out); rintro e w39 ⟨v512, rfl, ho0, hb⟩; have n0_ := Aside0.mk (Kd.N_below (by (with_reducible repeat (first | apply nA_ | apply nN_ | apply nD_)); exact HO_5.out) hb); have n1_ := Aside0.mk (Kd.N_below (by (with_reducible repeat (first | apply nA_ | apply nN_ | apply nD_)); exact HO_6.out) hb); have n2_ := Aside0.mk (Kd.N_below (by (with_reducible repeat (first | apply nA_ | apply nN_ | apply nD_)); exact HO_7.out) hb); have n3_ := Aside0.mk (Kd.V_below (by (with_reducible repeat (first | apply vA_ | apply vN_ | apply vD_)); exact HL504_0.out) hb); have n4_ := Aside0.mk (Kd.V_below (by (with_reducible repeat (first | apply vA_ | apply vN_ | apply vD_)); exact HL505_0.out) hb); have n5_ := Aside0.mk (Kd.V_below (by (with_reducible repeat (first | apply vA_ | apply vN_ | apply vD_)); exact HO508.out) hb); have n6_ := Aside0.mk (Kd.V_below (by (with_reducible repeat (first | apply vA_ | apply vN_ | apply vD_)); exact HL510_0.out) hb); have n7_ := Aside0.mk (Kd.V_lower (Kd.V_mono (ok' := fun k_ => some k_ ≠ (.slice Ao17 t491.length co17 : Value).ownBlock ∧ some k_ ≠ (.slice (some ad504) t497.length co37 : Value).ownBlock) ho0 (fun k_ hk_ => ⟨Or.elim hk_ (fun hs_ => hs_.1) (fun hn_ => (Kd.fresh' (Kd.N_lt (by (with_reducible repeat (first | apply nA_ | apply nN_ | apply nD_)); exact HO_5.out)) k_ hn_)), Or.elim hk_ (fun hs_ => hs_.2) (fun hn_ => (Kd.fresh' (Kd.N_lt (by (with_reducible repeat (first | apply nA_ | apply nN_ | apply nD_)); exact HO_7.out)) k_ hn_))⟩)) (below_size (by repeat (first | (with_reducible first | exact HB.out | apply bA_ | apply bN_ | apply bD_) | exact HB.out)))); have n8_ := Aside0.mk (Kd.C_below (by repeat (first | (with_reducible exact HR504_0.out) | (with_reducible refine cA_ ?_ _) | (with_reducible refine cN_ ?_ _) | (with_reducible refine cD_ ?_) | exact HR504_0.out)) hb); have n9_ := Aside0.mk (Kd.C_below (by repeat (first | (with_reducible exact HR505_0.out) | (with_reducible refine cA_ ?_ _) | (with_reducible refine cN_ ?_ _) | (with_reducible refine cD_ ?_) | exact HR505_0.out)) hb); have n10_ := Aside0.mk (Kd.C_below (by repeat (first | (with_reducible exact HR510_0.out) | (with_reducible refine cA_ ?_ _) | (with_reducible refine cN_ ?_ _) | (with_reducible refine cD_ ?_) | exact HR510_0.out)) hb); have n11_ := Aside0.mk (below_step (by repeat (first | (with_reducible first | exact HB.out | apply bA_ | apply bN_ | apply bD_) | exact HB.out)) hb); clear HO_5; clear HO_6; clear HO_7; clear HL504_0; clear HL505_0; clear HO508; clear HL510_0; clear HR504_0; clear HR505_0; clear HR510_0; clear HB; have HO_5 := n0_; have HO_6 := n1_; have HO_7 := n2_; have HL504_0 := n3_; have HL505_0 := n4_; have HO508 := n5_; have HL510_0 := n6_; have HO513 := n7_; have HR504_0 := n8_; have HR505_0 := n9_; have HR510_0 := n10_; have HB := n11_; clear n0_ n1_ n2_ n3_ n4_ n5_ n6_ n7_ n8_ n9_ n10_ n11_; (try clear hb); (try clear hb2); (try clear hk); (try clear hi); (try clear ho0)))
                            repeat (go_quiet (first | (go_at_call 14; (with_reducible refine (cadenceref2_Get.calls k3 (fun k_ => (some k_ ≠ (.slice Ao18 t494.length co18 : Value).ownBlock ∧ some k_ ≠ (.slice (some ad504) t497.length co37 : Value).ownBlock)) _ _ t491 _ _ (rd_L1 t497 x8_3) t506 t509 _ ?side1 ?side2 ?side3 A34.out).mono ?_); (case side1 => exact Kd.N_V (HO_5.out)); (case side2 => repeat (first | exact (by repeat (first | (with_reducible exact HR505_0.out) | (with_reducible refine cA_ ?_ _) | (with_reducible refine cN_ ?_ _) | (with_reducible refine cD_ ?_) | exact HR505_0.out)) | (with_reducible refine cA_ ?_ _) | (with_reducible refine cN_ ?_ _) | (with_reducible refine cD_ ?_))); (case side3 => exact HC505_0.out); rintro e w38 ⟨v507, rfl, ho0, hb⟩; have n0_ := Aside0.mk (Kd.N_below (by (with_reducible repeat (first | apply nA_ | apply nN_ | apply nD_)); exact HO_5.out) hb); have n1_ := Aside0.mk (Kd.N_below (by (with_reducible repeat (first | apply nA_ | apply nN_ | apply nD_)); exact HO_6.out) hb); have n2_ := Aside0.mk (Kd.N_below (by (with_reducible repeat (first | apply nA_ | apply nN_ | apply nD_)); exact HO_7.out) hb); have n3_ := Aside0.mk (Kd.V_below (by (with_reducible repeat (first | apply vA_ | apply vN_ | apply vD_)); exact HL504_0.out) hb); have n4_ := Aside0.mk (Kd.V_below (by (with_reducible repeat (first | apply vA_ | apply vN_ | apply vD_)); exact HL505_0.out) hb); have n5_ := Aside0.mk (Kd.V_lower (Kd.V_mono (ok' := fun k_ => some k_ ≠ (.slice Ao18 t494.length co18 : Value).ownBlock ∧ some k_ ≠ (.slice (some ad504) t497.length co37 : Value).ownBlock) ho0 (fun k_ hk_ => ⟨Or.elim hk_ (fun hs_ => hs_.1) (fun hn_ => (Kd.fresh' (Kd.N_lt (by (with_reducible repeat (first | apply nA_ | apply nN_ | apply nD_)); exact HO_6.out)) k_ hn_)), Or.elim hk_ (fun hs_ => hs_.2) (fun hn_ => (Kd.fresh' (Kd.N_lt (by (with_reducible repeat (first | apply nA_ | apply nN_ | apply nD_)); exact HO_7.out)) k_ hn_))⟩)) (below_size (by repeat (first | (with_reducible first | exact HB.out | apply bA_ | apply bN_ | apply bD_) | exact HB.out)))); have n6_ := Aside0.mk (Kd.C_below (by repeat (first | (with_reducible exact HR504_0.out) | (with_reducible refine cA_ ?_ _) | (with_reducible refine cN_ ?_ _) | (with_reducible refine cD_ ?_) | exact HR504_0.out)) hb); have n7_ := Aside0.mk (Kd.C_below (by repeat (first | (with_reducible exact HR505_0.out) | (with_reducible refine cA_ ?_ _) | (with_reducible refine cN_ ?_ _) | (with_reducible refine cD_ ?_) | exact HR505_0.out)) hb); have n8_ := Aside0.mk (below_step (by repeat (first | (with_reducible first | exact HB.out | apply bA_ | apply bN_ | apply bD_) | exact HB.out)) hb); clear HO_5; clear HO_6; clear HO_7; clear HL504_0; clear HL505_0; clear HR504_0; clear HR505_0; clear HB; have HO_5 := n0_; have HO_6 := n1_; have HO_7 := n2_; have HL504_0 := n3_; have HL505_0 := n4_; have HO508 := n5_; have HR504_0 := n6_; have HR505_0 := n7_; have HB := n8_; clear n0_ n1_ n2_ n3_ n4_ n5_ n6_ n7_ n8_; (try clear hb); (try clear hb2); (try clear hk); (try clear hi); (try clear ho0); have p510 : 0 ≤ (x8_3 : Int) := of_decide_eq_true (by first | (with_reducible assumption) | assumption); have q510 : x8_3 < (t497.length : Int) := of_decide_eq_true (by first | (with_reducible assumption) | assumption); obtain ⟨ad510, A510_0, c510_0, e510, hx510_0, hl510_0, hi510_0⟩ := at_L1 (Kd.N_reads' HO_7.out).2.2 x8_3 p510 q510; obtain rfl : ad504 = ad510 := (by injection e510); obtain ⟨ce510, hce510, hMe510, hcc510⟩ := Kd.N_get HO_7.out [] x8_3 p510 (by first | exact q510 | exact of_decide_eq_true (by first | (with_reducible assumption) | assumption) | (have e_ := (Kd.N_reads' HO_7.out).1; omega)); obtain ⟨ua510_0, uc510_0, rfl, ul510_0, ge510_0⟩ := Kd.FK_slice_open hMe510; have hv510_0 := hcc510 0 _ rfl; rw [Nat.add_zero, show ((Kd.slice 9 Kd.string)).sz = 1 from rfl, Nat.mul_one] at hv510_0; replace hv510_0 := Option.some.inj (hv510_0.symm.trans hx510_0); injection hv510_0 with hva_ hvn_ hvc_; rw [hva_] at ge510_0; rw [hvc_] at ul510_0; have HL510_0 := Aside0.mk (show Kd.V Kd.string 9 _ w.heap.size _ _ (rd_L1 t497 x8_3) from Kd.V_mk ul510_0 ge510_0); clear hva_ hvn_ hvc_ ge510_0 ul510_0; clear hcc510 hce510; have HR510_0 := Aside0.mk hi510_0; have HC510_0 := Aside0.mk hl510_0; clear hi510_0 hl510_0; replace p510 := eq_true p510; replace q510 := eq_true q510) | (go_at_call 14; (with_reducible refine (cadenceref2_Get.calls k3 (fun k_ => (some k_ ≠ (.slice Ao17 t491.length co17 : Value).ownBlock ∧ some k_ ≠ (.slice (some ad504) t497.length co37 : Value).ownBlock)) _ _ t494 _ _ (rd_L1 t497 x8_3) t511 t514 _ ?side1 ?side2 ?side3 A35.out).mono ?_); (case side1 => exact Kd.N_V (HO_6.out)); (case side2 => repeat (first | exact (by repeat (first | (with_reducible exact HR510_0.out) | (with_reducible refine cA_ ?_ _) | (with_reducible refine cN_ ?_ _) | (with_reducible refine cD_ ?_) | exact HR510_0.out)) | (with_reducible refine cA_ ?_ _) | (with_reducible refine cN_ ?_ _) | (with_reducible refine cD_ ?_))); (case side3 => exact HC510_0.out); rintro e w39 ⟨v512, rfl, ho0, hb⟩; have n0_ := Aside0.mk (Kd.N_below (by (with_reducible repeat (first | apply nA_ | apply nN_ | apply nD_)); exact HO_5.out) hb); have n1_ := Aside0.mk (Kd.N_below (by (with_reducible repeat (first | apply nA_ | apply nN_ | apply nD_)); exact HO_6.out) hb); have n2_ := Aside0.mk (Kd.N_below (by (with_reducible repeat (first | apply nA_ | apply nN_ | apply nD_)); exact HO_7.out) hb); have n3_ := Aside0.mk (Kd.V_below (by (with_reducible repeat (first | apply vA_ | apply vN_ | apply vD_)); exact HL504_0.out) hb); have n4_ := Aside0.mk (Kd.V_below (by (with_reducible repeat (first | apply vA_ | apply vN_ | apply vD_)); exact HL505_0.out) hb); have n5_ := Aside0.mk (Kd.V_below (by (with_reducible repeat (first | apply vA_ | apply vN_ | apply vD_)); exact HO508.out) hb); have n6_ := Aside0.mk (Kd.V_below (by (with_reducible repeat (first | apply vA_ | apply vN_ | apply vD_)); exact HL510_0.out) hb); have n7_ := Aside0.mk (Kd.V_lower (Kd.V_mono (ok' := fun k_ => some k_ ≠ (.slice Ao17 t491.length co17 : Value).ownBlock ∧ some k_ ≠ (.slice (some ad504) t497.length co37 : Value).ownBlock) ho0 (fun k_ hk_ => ⟨Or.elim hk_ (fun hs_ => hs_.1) (fun hn_ => (Kd.fresh' (Kd.N_lt (by (with_reducible repeat (first | apply nA_ | apply nN_ | apply nD_)); exact HO_5.out)) k_ hn_)), Or.elim hk_ (fun hs_ => hs_.2) (fun hn_ => (Kd.fresh' (Kd.N_lt (by (with_reducible repeat (first | apply nA_ | apply nN_ | apply nD_)); exact HO_7.out)) k_ hn_))⟩)) (below_size (by repeat (first | (with_reducible first | exact HB.out | apply bA_ | apply bN_ | apply bD_) | exact HB.out)))); have n8_ := Aside0.mk (Kd.C_below (by repeat (first | (with_reducible exact HR504_0.out) | (with_reducible refine cA_ ?_ _) | (with_reducible refine cN_ ?_ _) | (with_reducible refine cD_ ?_) | exact HR504_0.out)) hb); have n9_ := Aside0.mk (Kd.C_below (by repeat (first | (with_reducible exact HR505_0.out) | (with_reducible refine cA_ ?_ _) | (with_reducible refine cN_ ?_ _) | (with_reducible refine cD_ ?_) | exact HR505_0.out)) hb); have n10_ := Aside0.mk (Kd.C_below (by repeat (first | (with_reducible exact HR510_0.out) | (with_reducible refine cA_ ?_ _) | (with_reducible refine cN_ ?_ _) | (with_reducible refine cD_ ?_) | exact HR510_0.out)) hb); have n11_ := Aside0.mk (below_step (by repeat (first | (with_reducible first | exact HB.out | apply bA_ | apply bN_ | apply bD_) | exact HB.out)) hb); clear HO_5; clear HO_6; clear HO_7; clear HL504_0; clear HL505_0; clear HO508; clear HL510_0; clear HR504_0; clear HR505_0; clear HR510_0; clear HB; have HO_5 := n0_; have HO_6 := n1_; have HO_7 := n2_; have HL504_0 := n3_; have HL505_0 := n4_; have HO508 := n5_; have HL510_0 := n6_; have HO513 := n7_; have HR504_0 := n8_; have HR505_0 := n9_; have HR510_0 := n10_; have HB := n11_; clear n0_ n1_ n2_ n3_ n4_ n5_ n6_ n7_ n8_ n9_ n10_ n11_; (try clear hb); (try clear hb2); (try clear hk); (try clear hi); (try clear ho0))); try go_wp2_with (first | (go_at_call 14; (with_reducible refine (cadenceref2_Get.calls k3 (fun k_ => (some k_ ≠ (.slice Ao18 t494.length co18 : Value).ownBlock ∧ some k_ ≠ (.slice (some ad504) t497.length co37 : Value).ownBlock)) _ _ t491 _ _ (rd_L1 t497 x8_3) t506 t509 _ ?side1 ?side2 ?side3 A34.out).mono ?_); (case side1 => exact Kd.N_V (HO_5.out)); (case side2 => repeat (first | exact (by repeat (first | (with_reducible exact HR505_0.out) | (with_reducible refine cA_ ?_ _) | (with_reducible refine cN_ ?_ _) | (with_reducible refine cD_ ?_) | exact HR505_0.out)) | (with_reducible refine cA_ ?_ _) | (with_reducible refine cN_ ?_ _) | (with_reducible refine cD_ ?_))); (case side3 => exact HC505_0.out); rintro e w38 ⟨v507, rfl, ho0, hb⟩; have n0_ := Aside0.mk (Kd.N_below (by (with_reducible repeat (first | apply nA_ | apply nN_ | apply nD_)); exact HO_5.out) hb); have n1_ := Aside0.mk (Kd.N_below (by (with_reducible repeat (first | apply nA_ | apply nN_ | apply nD_)); exact HO_6.out) hb); have n2_ := Aside0.mk (Kd.N_below (by (with_reducible repeat (first | apply nA_ | apply nN_ | apply nD_)); exact HO_7.out) hb); have n3_ := Aside0.mk (Kd.V_below (by (with_reducible repeat (first | apply vA_ | apply vN_ | apply vD_)); exact HL504_0.out) hb); have n4_ := Aside0.mk (Kd.V_below (by (with_reducible repeat (first | apply vA_ | apply vN_ | apply vD_)); exact HL505_0.out) hb); have n5_ := Aside0.mk (Kd.V_lower (Kd.V_mono (ok' := fun k_ => some k_ ≠ (.slice Ao18 t494.length co18 : Value).ownBlock ∧ some k_ ≠ (.slice (some ad504) t497.length co37 : Value).ownBlock) ho0 (fun k_ hk_ => ⟨Or.elim hk_ (fun hs_ => hs_.1) (fun hn_ => (Kd.fresh' (Kd.N_lt (by (with_reducible repeat (first | apply nA_ | apply nN_ | apply nD_)); exact HO_6.out)) k_ hn_)), Or.elim hk_ (fun hs_ => hs_.2) (fun hn_ => (Kd.fresh' (Kd.N_lt (by (with_reducible repeat (first | apply nA_ | apply nN_ | apply nD_)); exact HO_7.out)) k_ hn_))⟩)) (below_size (by repeat (first | (with_reducible first | exact HB.out | apply bA_ | apply bN_ | apply bD_) | exact HB.out)))); have n6_ := Aside0.mk (Kd.C_below (by repeat (first | (with_reducible exact HR504_0.out) | (with_reducible refine cA_ ?_ _) | (with_reducible refine cN_ ?_ _) | (with_reducible refine cD_ ?_) | exact HR504_0.out)) hb); have n7_ := Aside0.mk (Kd.C_below (by repeat (first | (with_reducible exact HR505_0.out) | (with_reducible refine cA_ ?_ _) | (with_reducible refine cN_ ?_ _) | (with_reducible refine cD_ ?_) | exact HR505_0.out)) hb); have n8_ := Aside0.mk (below_step (by repeat (first | (with_reducible first | exact HB.out | apply bA_ | apply bN_ | apply bD_) | exact HB.out)) hb); clear HO_5; clear HO_6; clear HO_7; clear HL504_0; clear HL505_0; clear HR504_0; clear HR505_0; clear HB; have HO_5 := n0_; have HO_6 := n1_; have HO_7 := n2_; have HL504_0 := n3_; have HL505_0 := n4_; have HO508 := n5_; have HR504_0 := n6_; have HR505_0 := n7_; have HB := n8_; clear n0_ n1_ n2_ n3_ n4_ n5_ n6_ n7_ n8_; (try clear hb); (try clear hb2); (try clear hk); (try clear hi); (try clear ho0); have p510 : 0 ≤ (x8_3 : Int) := of_decide_eq_true (by first | (with_reducible assumption) | assumption); have q510 : x8_3 < (t497.length : Int) := of_decide_eq_true (by first | (with_reducible assumption) | assumption); obtain ⟨ad510, A510_0, c510_0, e510, hx510_0, hl510_0, hi510_0⟩ := at_L1 (Kd.N_reads' HO_7.out).2.2 x8_3 p510 q510; obtain rfl : ad504 = ad510 := (by injection e510); obtain ⟨ce510, hce510, hMe510, hcc510⟩ := Kd.N_get HO_7.out [] x8_3 p510 (by first | exact q510 | exact of_decide_eq_true (by first | (with_reducible assumption) | assumption) | (have e_ := (Kd.N_reads' HO_7.out).1; omega)); obtain ⟨ua510_0, uc510_0, rfl, ul510_0, ge510_0⟩ := Kd.FK_slice_open hMe510; have hv510_0 := hcc510 0 _ rfl; rw [Nat.add_zero, show ((Kd.slice 9 Kd.string)).sz = 1 from rfl, Nat.mul_one] at hv510_0; replace hv510_0 := Option.some.inj (hv510_0.symm.trans hx510_0); injection hv510_0 with hva_ hvn_ hvc_; rw [hva_] at ge510_0; rw [hvc_] at ul510_0; have HL510_0 := Aside0.mk (show Kd.V Kd.string 9 _ w.heap.size _ _ (rd_L1 t497 x8_3) from Kd.V_mk ul510_0 ge510_0); clear hva_ hvn_ hvc_ ge510_0 ul510_0; clear hcc510 hce510; have HR510_0 := Aside0.mk hi510_0; have HC510_0 := Aside0.mk hl510_0; clear hi510_0 hl510_0; replace p510 := eq_true p510; replace q510 := eq_true q510) | (go_at_call 14; (with_reducible refine (cadenceref2_Get.calls k3 (fun k_ => (some k_ ≠ (.slice Ao17 t491.length co17 : Value).ownBlock ∧ some k_ ≠ (.slice (some ad504) t497.length co37 : Value).ownBlock)) _ _ t494 _ _ (rd_L1 t497 x8_3) t511 t514 _ ?side1 ?side2 ?side3 A35.out).mono ?_); (case side1 => exact Kd.N_V (HO_6.out)); (case side2 => repeat (first | exact (by repeat (first | (with_reducible exact HR510_0.out) | (with_reducible refine cA_ ?_ _) | (with_reducible refine cN_ ?_ _) | (with_reducible refine cD_ ?_) | exact HR510_0.out)) | (with_reducible refine cA_ ?_ _) | (with_reducible refine cN_ ?_ _) | (with_reducible refine cD_ ?_))); (case side3 => exact HC510_0.out); rintro e w39 ⟨v512, rfl, ho0, hb⟩; have n0_ := Aside0.mk (Kd.N_below (by (with_reducible repeat (first | apply nA_ | apply nN_ | apply nD_)); exact HO_5.out) hb); have n1_ := Aside0.mk (Kd.N_below (by (with_reducible repeat (first | apply nA_ | apply nN_ | apply nD_)); exact HO_6.out) hb); have n2_ := Aside0.mk (Kd.N_below (by (with_reducible repeat (first | apply nA_ | apply nN_ | apply nD_)); exact HO_7.out) hb); have n3_ := Aside0.mk (Kd.V_below (by (with_reducible repeat (first | apply vA_ | apply vN_ | apply vD_)); exact HL504_0.out) hb); have n4_ := Aside0.mk (Kd.V_below (by (with_reducible repeat (first | apply vA_ | apply vN_ | apply vD_)); exact HL505_0.out) hb); have n5_ := Aside0.mk (Kd.V_below (by (with_reducible repeat (first | apply vA_ | apply vN_ | apply vD_)); exact HO508.out) hb); have n6_ := Aside0.mk (Kd.V_below (by (with_reducible repeat (first | apply vA_ | apply vN_ | apply vD_)); exact HL510_0.out) hb); have n7_ := Aside0.mk (Kd.V_lower (Kd.V_mono (ok' := fun k_ => some k_ ≠ (.slice Ao17 t491.length co17 : Value).ownBlock ∧ some k_ ≠ (.slice (some ad504) t497.length co37 : Value).ownBlock) ho0 (fun k_ hk_ => ⟨Or.elim hk_ (fun hs_ => hs_.1) (fun hn_ => (Kd.fresh' (Kd.N_lt (by (with_reducible repeat (first | apply nA_ | apply nN_ | apply nD_)); exact HO_5.out)) k_ hn_)), Or.elim hk_ (fun hs_ => hs_.2) (fun hn_ => (Kd.fresh' (Kd.N_lt (by (with_reducible repeat (first | apply nA_ | apply nN_ | apply nD_)); exact HO_7.out)) k_ hn_))⟩)) (below_size (by repeat (first | (with_reducible first | exact HB.out | apply bA_ | apply bN_ | apply bD_) | exact HB.out)))); have n8_ := Aside0.mk (Kd.C_below (by repeat (first | (with_reducible exact HR504_0.out) | (with_reducible refine cA_ ?_ _) | (with_reducible refine cN_ ?_ _) | (with_reducible refine cD_ ?_) | exact HR504_0.out)) hb); have n9_ := Aside0.mk (Kd.C_below (by repeat (first | (with_reducible exact HR505_0.out) | (with_reducible refine cA_ ?_ _) | (with_reducible refine cN_ ?_ _) | (with_reducible refine cD_ ?_) | exact HR505_0.out)) hb); have n10_ := Aside0.mk (Kd.C_below (by repeat (first | (with_reducible exact HR510_0.out) | (with_reducible refine cA_ ?_ _) | (with_reducible refine cN_ ?_ _) | (with_reducible refine cD_ ?_) | exact HR510_0.out)) hb); have n11_ := Aside0.mk (below_step (by repeat (first | (with_reducible first | exact HB.out | apply bA_ | apply bN_ | apply bD_) | exact HB.out)) hb); clear HO_5; clear HO_6; clear HO_7; clear HL504_0; clear HL505_0; clear HO508; clear HL510_0; clear HR504_0; clear HR505_0; clear HR510_0; clear HB; have HO_5 := n0_; have HO_6 := n1_; have HO_7 := n2_; have HL504_0 := n3_; have HL505_0 := n4_; have HO508 := n5_; have HL510_0 := n6_; have HO513 := n7_; have HR504_0 := n8_; have HR505_0 := n9_; have HR510_0 := n10_; have HB := n11_; clear n0_ n1_ n2_ n3_ n4_ n5_ n6_ n7_ n8_ n9_ n10_ n11_; (try clear hb); (try clear hb2); (try clear hk); (try clear hi); (try clear ho0))))
                            go_ret
                            exact ⟨by first | rfl | (simp [errW_none, errW_some] <;> rfl) | (simp [*, errW_none, errW_some] <;> rfl), by repeat (first | (with_reducible first | exact HB.out | apply bA_ | apply bN_ | apply bD_) | exact HB.out)⟩
                          · rw [if_neg c36] at H
                            have c36b0 : (t509 == t514) = false := by simpa using c36
                            (try (have c36b1 : decide (t509 = t514) = false := by simpa using c36))
                            (try (have c36b2 : (t509 == t514) = false := by simpa using c36))
                            (try (have c36b3 : ¬ (t509 = t514) := by simpa using c36))
                            clear c36
                            have H' := Aside0.mk H
                            clear H
                            obtain ⟨Ao40, co40, eo40⟩ := Kd.N_slice HO_7.out
                            subst eo40
                            have p504 : 0 ≤ (x8_3 : Int) := of_decide_eq_true (by first | (with_reducible assumption) | assumption)
                            have q504 : x8_3 < (t497.length : Int) := of_decide_eq_true (by first | (with_reducible assumption) | assumption)
                            obtain ⟨ad504, A504_0, c504_0, e504, hx504_0, hl504_0, hi504_0⟩ := at_L1 (Kd.N_reads' HO_7.out).2.2 x8_3 p504 q504
                            cases e504
                            obtain ⟨ce504, hce504, hMe504, hcc504⟩ := Kd.N_get HO_7.out [] x8_3 p504 (by first | exact q504 | exact of_decide_eq_true (by first | (with_reducible assumption) | assumption) | (have e_ := (Kd.N_reads' HO_7.out).1; omega))
                            obtain ⟨ua504_0, uc504_0, rfl, ul504_0, ge504_0⟩ := Kd.FK_slice_open hMe504
                            have hv504_0 := hcc504 0 _ rfl
                            rw [Nat.add_zero, show ((Kd.slice 9 Kd.string)).sz = 1 from rfl, Nat.mul_one] at hv504_0
                            replace hv504_0 := Option.some.inj (hv504_0.symm.trans hx504_0)
                            injection hv504_0 with hva_ hvn_ hvc_
                            rw [hva_] at ge504_0
                            rw [hvc_] at ul504_0
                            have HL504_0 := Aside0.mk (show Kd.V Kd.string 9 _ w.heap.size _ _ (rd_L1 t497 x8_3) from Kd.V_mk ul504_0 ge504_0)
                            clear hva_ hvn_ hvc_ ge504_0 ul504_0
                            clear hcc504 hce504
                            have HR504_0 := Aside0.mk hi504_0
                            have HC504_0 := Aside0.mk hl504_0
                            clear hi504_0 hl504_0
                            replace p504 := eq_true p504
                            replace q504 := eq_true q504
                            have p505 : 0 ≤ (x8_3 : Int) := of_decide_eq_true (by first | (with_reducible assumption) | assumption)
                            have q505 : x8_3 < (t497.length : Int) := of_decide_eq_true (by first | (with_reducible assumption) | assumption)
                            obtain ⟨ad505, A505_0, c505_0, e505, hx505_0, hl505_0, hi505_0⟩ := at_L1 (Kd.N_reads' HO_7.out).2.2 x8_3 p505 q505
                            obtain rfl : ad504 = ad505 := (by injection e505)
                            obtain ⟨ce505, hce505, hMe505, hcc505⟩ := Kd.N_get HO_7.out [] x8_3 p505 (by first | exact q505 | exact of_decide_eq_true (by first | (with_reducible assumption) | assumption) | (have e_ := (Kd.N_reads' HO_7.out).1; omega))
                            obtain ⟨ua505_0, uc505_0, rfl, ul505_0, ge505_0⟩ := Kd.FK_slice_open hMe505
                            have hv505_0 := hcc505 0 _ rfl
                            rw [Nat.add_zero, show ((Kd.slice 9 Kd.string)).sz = 1 from rfl, Nat.mul_one] at hv505_0
                            replace hv505_0 := Option.some.inj (hv505_0.symm.trans hx505_0)
                            injection hv505_0 with hva_ hvn_ hvc_
                            rw [hva_] at ge505_0
                            rw [hvc_] at ul505_0
                            have HL505_0 := Aside0.mk (show Kd.V Kd.string 9 _ w.heap.size _ _ (rd_L1 t497 x8_3) from Kd.V_mk ul505_0 ge505_0)
                            clear hva_ hvn_ hvc_ ge505_0 ul505_0
                            clear hcc505 hce505
                            have HR505_0 := Aside0.mk hi505_0
                            have HC505_0 := Aside0.mk hl505_0
                            clear hi505_0 hl505_0
                            replace p505 := eq_true p505
                            replace q505 := eq_true q505
                            have ea_ := Option.some.inj (hx504_0.symm.trans hx505_0)
                            injection ea_ with ea_ en_ ec_
                            subst ea_
                            subst ec_
                            clear en_
                            go_wp2_with (first | (go_at_call 14; (with_reducible refine (cadenceref2_Get.calls k3 (fun k_ => (some k_ ≠ (.slice Ao18 t494.length co18 : Value).ownBlock ∧ some k_ ≠ (.slice (some ad504) t497.length co40 : Value).ownBlock)) _ _ t491 _ _ (rd_L1 t497 x8_3) t506 t509 _ ?side1 ?side2 ?side3 A34.out).mono ?_); (case side1 => exact Kd.N_V (HO_5.out)); (case side2 => repeat (first | exact (by repeat (first | (with_reducible exact HR505_0.out) | (with_reducible refine cA_ ?_ _) | (with_reducible refine cN_ ?_ _) | (with_reducible refine cD_ ?_) | exact HR505_0.out)) | (with_reducible refine cA_ ?_ _) | (with_reducible refine cN_ ?_ _) | (with_reducible refine cD_ ?_))); (case side3 => exact HC505_0.out); rintro e w41 ⟨v507, rfl, ho0, hb⟩; have n0_ := Aside0.mk (Kd.N_below (by (with_reducible repeat (first | apply nA_ | apply nN_ | apply nD_)); exact HO_5.out) hb); have n1_ := Aside0.mk (Kd.N_below (by (with_reducible repeat (first | apply nA_ | apply nN_ | apply nD_)); exact HO_6.out) hb); have n2_ := Aside0.mk (Kd.N_below (by (with_reducible repeat (first | apply nA_ | apply nN_ | apply nD_)); exact HO_7.out) hb); have n3_ := Aside0.mk (Kd.V_below (by (with_reducible repeat (first | apply vA_ | apply vN_ | apply vD_)); exact HL504_0.out) hb); have n4_ := Aside0.mk (Kd.V_below (by (with_reducible repeat (first | apply vA_ | apply vN_ | apply vD_)); exact HL505_0.out) hb); have n5_ := Aside0.mk (Kd.V_lower (Kd.V_mono (ok' := fun k_ => some k_ ≠ (.slice Ao18 t494.length co18 : Value).ownBlock ∧ some k_ ≠ (.slice (some ad504) t497.length co40 : Value).ownBlock) ho0 (fun k_ hk_ => ⟨Or.elim hk_ (fun hs_ => hs_.1) (fun hn_ => (Kd.fresh' (Kd.N_lt (by (with_reducible repeat (first | apply nA_ | apply nN_ | apply nD_)); exact HO_6.out)) k_ hn_)), Or.elim hk_ (fun hs_ => hs_.2) (fun hn_ => (Kd.fresh' (Kd.N_lt (by (with_reducible repeat (first | apply nA_ | apply nN_ | apply nD_)); exact HO_7.out)) k_ hn_))⟩)) (below_size (by repeat (first | (with_reducible first | exact HB.out | apply bA_ | apply bN_ | apply bD_) | exact HB.out)))); have n6_ := Aside0.mk (Kd.C_below (by repeat (first | (with_reducible exact HR504_0.out) | (with_reducible refine cA_ ?_ _) | (with_reducible refine cN_ ?_ _) | (with_reducible refine cD_ ?_) | exact HR504_0.out)) hb); have n7_ := Aside0.mk (Kd.C_below (by repeat (first | (with_reducible exact HR505_0.out) | (with_reducible refine cA_ ?_ _) | (with_reducible refine cN_ ?_ _) | (with_reducible refine cD_ ?_) | exact HR505_0.out)) hb); have n8_ := Aside0.mk (below_step (by repeat (first | (with_reducible first | exact HB.out | apply bA_ | apply bN_ | apply bD_) | exact HB.out)) hb); clear HO_5; clear HO_6; clear HO_7; clear HL504_0; clear HL505_0; clear HR504_0; clear HR505_0; clear HB; have HO_5 := n0_; have HO_6 := n1_; have HO_7 := n2_; have HL504_0 := n3_; have HL505_0 := n4_; have HO508 := n5_; have HR504_0 := n6_; have HR505_0 := n7_; have HB := n8_; clear n0_ n1_ n2_ n3_ n4_ n5_ n6_ n7_ n8_; (try clear hb); (try clear hb2); (try clear hk); (try clear hi); (try clear ho0); have p510 : 0 ≤ (x8_3 : Int) := of_decide_eq_true (by first | (with_reducible assumption) | assumption); have q510 : x8_3 < (t497.length : Int) := of_decide_eq_true (by first | (with_reducible assumption) | assumption); obtain ⟨ad510, A510_0, c510_0, e510, hx510_0, hl510_0, hi510_0⟩ := at_L1 (Kd.N_reads' HO_7.out).2.2 x8_3 p510 q510; obtain rfl : ad504 = ad510 := (by injection e510); obtain ⟨ce510, hce510, hMe510, hcc510⟩ := Kd.N_get HO_7.out [] x8_3 p510 (by first | exact q510 | exact of_decide_eq_true (by first | (with_reducible assumption) | assumption) | (have e_ := (Kd.N_reads' HO_7.out).1; omega)); obtain ⟨ua510_0, uc510_0, rfl, ul510_0, ge510_0⟩ := Kd.FK_slice_open hMe510; have hv510_0 := hcc510 0 _ rfl; rw [Nat.add_zero, show ((Kd.slice 9 Kd.string)).sz = 1 from rfl, Nat.mul_one] at hv510_0; replace hv510_0 := Option.some.inj (hv510_0.symm.trans hx510_0); injection hv510_0 with hva_ hvn_ hvc_; rw [hva_] at ge510_0; rw [hvc_] at ul510_0; have HL510_0 := Aside0.mk (show Kd.V Kd.string 9 _ w.heap.size _ _ (rd_L1 t497 x8_3) from Kd.V_mk ul510_0 ge510_0); clear hva_ hvn_ hvc_ ge510_0 ul510_0; clear hcc510 hce510; have HR510_0 := Aside0.mk hi510_0; have HC510_0 := Aside0.mk hl510_0; clear hi510_0 hl510_0; replace p510 := eq_true p510; replace q510 := eq_true q510) | (go_at_call 14; (with_reducible refine (cadenceref2_Get.calls k3 (fun k_ => (some k_ ≠ (.slice Ao17 t491.length co17 : Value).ownBlock ∧ some k_ ≠ (.slice (some ad504) t497.length co40 : Value).ownBlock)) _ _ t494 _ _ (rd_L1 t497 x8_3) t511 t514 _ ?side1 ?side2 ?side3 A35.out).mono ?_); (case side1 => exact Kd.N_V (HO_6.out)); (case side2 => repeat (first | exact (by repeat (first | (with_reducible exact HR510_0.out) | (with_reducible refine cA_ ?_ _) | (with_reducible refine cN_ ?_ _) | (with_reducible refine cD_ ?_) | exact HR510_0.out)) | (with_reducible refine cA_ ?_ _) | (with_reducible refine cN_ ?_ _) | (with_reducible refine cD_ ?_))); (case side3 => exact HC510_0.out); rintro e w42 ⟨v512, rfl, ho0, hb⟩; have n0_ := Aside0.mk (Kd.N_below (by (with_reducible repeat (first | apply nA_ | apply nN_ | apply nD_)); exact HO_5.out) hb); have n1_ := Aside0.mk (Kd.N_below (by (with_reducible repeat (first | apply nA_ | apply nN_ | apply nD_)); exact HO_6.out) hb); have n2_ := Aside0.mk (Kd.N_below (by (with_reducible repeat (first | apply nA_ | apply nN_ | apply nD_)); exact HO_7.out) hb); have n3_ := Aside0.mk (Kd.V_below (by (with_reducible repeat (first | apply vA_ | apply vN_ | apply vD_)); exact HL504_0.out) hb); have n4_ := Aside0.mk (Kd.V_below (by (with_reducible repeat (first | apply vA_ | apply vN_ | apply vD_)); exact HL505_0.out) hb); have n5_ := Aside0.mk (Kd.V_below (by (with_reducible repeat (first | apply vA_ | apply vN_ | apply vD_)); exact HO508.out) hb); have n6_ := Aside0.mk (Kd.V_below (by (with_reducible repeat (first | apply vA_ | apply vN_ | apply vD_)); exact HL510_0.out) hb); have n7_ := Aside0.mk (Kd.V_lower (Kd.V_mono (ok' := fun k_ => some k_ ≠ (.slice Ao17 t491.length co17 : Value).ownBlock ∧ some k_ ≠ (.slice (some ad504) t497.length co40 : Value).ownBlock) ho0 (fun k_ hk_ => ⟨Or.elim hk_ (fun hs_ => hs_.1) (fun hn_ => (Kd.fresh' (Kd.N_lt (by (with_reducible repeat (first | apply nA_ | apply nN_ | apply nD_)); exact HO_5.out)) k_ hn_)), Or.elim hk_ (fun hs_ => hs_.2) (fun hn_ => (Kd.fresh' (Kd.N_lt (by (with_reducible repeat (first | apply nA_ | apply nN_ | apply nD_)); exact HO_7.out)) k_ hn_))⟩)) (below_size (by repeat (first | (with_reducible first | exact HB.out | apply bA_ | apply bN_ | apply bD_) | exact HB.out)))); have n8_ := Aside0.mk (Kd.C_below (by repeat (first | (with_reducible exact HR504_0.out) | (with_reducible refine cA_ ?_ _) | (with_reducible refine cN_ ?_ _) | (with_reducible refine cD_ ?_) | exact HR504_0.out)) hb); have n9_ := Aside0.mk (Kd.C_below (by repeat (first | (with_reducible exact HR505_0.out) | (with_reducible refine cA_ ?_ _) | (with_reducible refine cN_ ?_ _) | (with_reducible refine cD_ ?_) | exact HR505_0.out)) hb); have n10_ := Aside0.mk (Kd.C_below (by repeat (first | (with_reducible exact HR510_0.out) | (with_reducible refine cA_ ?_ _) | (with_reducible refine cN_ ?_ _) | (with_reducible refine cD_ ?_) | exact HR510_0.out)) hb); have n11_ := Aside0.mk (below_step (by repeat (first | (with_reducible first | exact HB.out | apply bA_ | apply bN_ | apply bD_) | exact HB.out)) hb); clear HO_5; clear HO_6; clear HO_7; clear HL504_0; clear HL505_0; clear HO508; clear HL510_0; clear HR504_0; clear HR505_0; clear HR510_0; clear HB; have HO_5 := n0_; have HO_6 := n1_; have HO_7 := n2_; have HL504_0 := n3_; have HL505_0 := n4_; have HO508 := n5_; have HL510_0 := n6_; have HO513 := n7_; have HR504_0 := n8_; have HR505_0 := n9_; have HR510_0 := n10_; have HB := n11_; clear n0_ n1_ n2_ n3_ n4_ n5_ n6_ n7_ n8_ n9_ n10_ n11_; (try clear hb); (try clear hb2); (try clear hk); (try clear hi); (try clear ho0)))
                            repeat (go_quiet (first | (go_at_call 14; (with_reducible refine (cadenceref2_Get.calls k3 (fun k_ => (some k_ ≠ (.slice Ao18 t494.length co18 : Value).ownBlock ∧ some k_ ≠ (.slice (some ad504) t497.length co40 : Value).ownBlock)) _ _ t491 _ _ (rd_L1 t497 x8_3) t506 t509 _ ?side1 ?side2 ?side3 A34.out).mono ?_); (case side1 => exact Kd.N_V (HO_5.out)); (case side2 => repeat (first | exact (by repeat (first | (with_reducible exact HR505_0.out) | (with_reducible refine cA_ ?_ _) | (with_reducible refine cN_ ?_ _) | (with_reducible refine cD_ ?_) | exact HR505_0.out)) | (with_reducible refine cA_ ?_ _) | (with_reducible refine cN_ ?_ _) | (with_reducible refine cD_ ?_))); (case side3 => exact HC505_0.out); rintro e w41 ⟨v507, rfl, ho0, hb⟩; have n0_ := Aside0.mk (Kd.N_below (by (with_reducible repeat (first | apply nA_ | apply nN_ | apply nD_)); exact HO_5.out) hb); have n1_ := Aside0.mk (Kd.N_below (by (with_reducible repeat (first | apply nA_ | apply nN_ | apply nD_)); exact HO_6.out) hb); have n2_ := Aside0.mk (Kd.N_below (by (with_reducible repeat (first | apply nA_ | apply nN_ | apply nD_)); exact HO_7.out) hb); have n3_ := Aside0.mk (Kd.V_below (by (with_reducible repeat (first | apply vA_ | apply vN_ | apply vD_)); exact HL504_0.out) hb); have n4_ := Aside0.mk (Kd.V_below (by (with_reducible repeat (first | apply vA_ | apply vN_ | apply vD_)); exact HL505_0.out) hb); have n5_ := Aside0.mk (Kd.V_lower (Kd.V_mono (ok' := fun k_ => some k_ ≠ (.slice Ao18 t494.length co18 : Value).ownBlock ∧ some k_ ≠ (.slice (some ad504) t497.length co40 : Value).ownBlock) ho0 (fun k_ hk_ => ⟨Or.elim hk_ (fun hs_ => hs_.1) (fun hn_ => (Kd.fresh' (Kd.N_lt (by (with_reducible repeat (first | apply nA_ | apply nN_ | apply nD_)); exact HO_6.out)) k_ hn_)), Or.elim hk_ (fun hs_ => hs_.2) (fun hn_ => (Kd.fresh' (Kd.N_lt (by (with_reducible repeat (first | apply nA_ | apply nN_ | apply nD_)); exact HO_7.out)) k_ hn_))⟩)) (below_size (by repeat (first | (with_reducible first | exact HB.out | apply bA_ | apply bN_ | apply bD_) | exact HB.out)))); have n6_ := Aside0.mk (Kd.C_below (by repeat (first | (with_reducible exact HR504_0.out) | (with_reducible refine cA_ ?_ _) | (with_reducible refine cN_ ?_ _) | (with_reducible refine cD_ ?_) | exact HR504_0.out)) hb); have n7_ := Aside0.mk (Kd.C_below (by repeat (first | (with_reducible exact HR505_0.out) | (with_reducible refine cA_ ?_ _) | (with_reducible refine cN_ ?_ _) | (with_reducible refine cD_ ?_) | exact HR505_0.out)) hb); have n8_ := Aside0.mk (below_step (by repeat (first | (with_reducible first | exact HB.out | apply bA_ | apply bN_ | apply bD_) | exact HB.out)) hb); clear HO_5; clear HO_6; clear HO_7; clear HL504_0; clear HL505_0; clear HR504_0; clear HR505_0; clear HB; have HO_5 := n0_; have HO_6 := n1_; have HO_7 := n2_; have HL504_0 := n3_; have HL505_0 := n4_; have HO508 := n5_; have HR504_0 := n6_; have HR505_0 := n7_; have HB := n8_; clear n0_ n1_ n2_ n3_ n4_ n5_ n6_ n7_ n8_; (try clear hb); (try clear hb2); (try clear hk); (try clear hi); (try clear ho0); have p510 : 0 ≤ (x8_3 : Int) := of_decide_eq_true (by first | (with_reducible assumption) | assumption); have q510 : x8_3 < (t497.length : Int) := of_decide_eq_true (by first | (with_reducible assumption) | assumption); obtain ⟨ad510, A510_0, c510_0, e510, hx510_0, hl510_0, hi510_0⟩ := at_L1 (Kd.N_reads' HO_7.out).2.2 x8_3 p510 q510; obtain rfl : ad504 = ad510 := (by injection e510); obtain ⟨ce510, hce510, hMe510, hcc510⟩ := Kd.N_get HO_7.out [] x8_3 p510 (by first | exact q510 | exact of_decide_eq_true (by first | (with_reducible assumption) | assumption) | (have e_ := (Kd.N_reads' HO_7.out).1; omega)); obtain ⟨ua510_0, uc510_0, rfl, ul510_0, ge510_0⟩ := Kd.FK_slice_open hMe510; have hv510_0 := hcc510 0 _ rfl; rw [Nat.add_zero, show ((Kd.slice 9 Kd.string)).sz = 1 from rfl, Nat.mul_one] at hv510_0; replace hv510_0 := Option.some.inj (hv510_0.symm.trans hx510_0); injection hv510_0 with hva_ hvn_ hvc_; rw [hva_] at ge510_0; rw [hvc_] at ul510_0; have HL510_0 := Aside0.mk (show Kd.V Kd.string 9 _ w.heap.size _ _ (rd_L1 t497 x8_3) from Kd.V_mk ul510_0 ge510_0); clear hva_ hvn_ hvc_ ge510_0 ul510_0; clear hcc510 hce510; have HR510_0 := Aside0.mk hi510_0; have HC510_0 := Aside0.mk hl510_0; clear hi510_0 hl510_0; replace p510 := eq_true p510; replace q510 := eq_true q510) | (go_at_call 14; (with_reducible refine (cadenceref2_Get.calls k3 (fun k_ => (some k_ ≠ (.slice Ao17 t491.length co17 : Value).ownBlock ∧ some k_ ≠ (.slice (some ad504) t497.length co40 : Value).ownBlock)) _ _ t494 _ _ (rd_L1 t497 x8_3) t511 t514 _ ?side1 ?side2 ?side3 A35.out).mono ?_); (case side1 => exact Kd.N_V (HO_6.out)); (case side2 => repeat (first | exact (by repeat (first | (with_reducible exact HR510_0.out) | (with_reducible refine cA_ ?_ _) | (with_reducible refine cN_ ?_ _) | (with_reducible refine cD_ ?_) | exact HR510_0.out)) | (with_reducible refine cA_ ?_ _) | (with_reducible refine cN_ ?_ _) | (with_reducible refine cD_ ?_))); (case side3 => exact HC510_0.out); rintro e w42 ⟨v512, rfl, ho0, hb⟩; have n0_ := Aside0.mk (Kd.N_below (by (with_reducible repeat (first | apply nA_ | apply nN_ | apply nD_)); exact HO_5.out) hb); have n1_ := Aside0.mk (Kd.N_below (by (with_reducible repeat (first | apply nA_ | apply nN_ | apply nD_)); exact HO_6.out) hb); have n2_ := Aside0.mk (Kd.N_below (by (with_reducible repeat (first | apply nA_ | apply nN_ | apply nD_)); exact HO_7.out) hb); have n3_ := Aside0.mk (Kd.V_below (by (with_reducible repeat (first | apply vA_ | apply vN_ | apply vD_)); exact HL504_0.out) hb); have n4_ := Aside0.mk (Kd.V_below (by (with_reducible repeat (first | apply vA_ | apply vN_ | apply vD_)); exact HL505_0.out) hb); have n5_ := Aside0.mk (Kd.V_below (by (with_reducible repeat (first | apply vA_ | apply vN_ | apply vD_)); exact HO508.out) hb); have n6_ := Aside0.mk (Kd.V_below (by (with_reducible repeat (first | apply vA_ | apply vN_ | apply vD_)); exact HL510_0.out) hb); have n7_ := Aside0.mk (Kd.V_lower (Kd.V_mono (ok' := fun k_ => some k_ ≠ (.slice Ao17 t491.length co17 : Value).ownBlock ∧ some k_ ≠ (.slice (some ad504) t497.length co40 : Value).ownBlock) ho0 (fun k_ hk_ => ⟨Or.elim hk_ (fun hs_ => hs_.1) (fun hn_ => (Kd.fresh' (Kd.N_lt (by (with_reducible repeat (first | apply nA_ | apply nN_ | apply nD_)); exact HO_5.out)) k_ hn_)), Or.elim hk_ (fun hs_ => hs_.2) (fun hn_ => (Kd.fresh' (Kd.N_lt (by (with_reducible repeat (first | apply nA_ | apply nN_ | apply nD_)); exact HO_7.out)) k_ hn_))⟩)) (below_size (by repeat (first | (with_reducible first | exact HB.out | apply bA_ | apply bN_ | apply bD_) | exact HB.out)))); have n8_ := Aside0.mk (Kd.C_below (by repeat (first | (with_reducible exact HR504_0.out) | (with_reducible refine cA_ ?_ _) | (with_reducible refine cN_ ?_ _) | (with_reducible refine cD_ ?_) | exact HR504_0.out)) hb); have n9_ := Aside0.mk (Kd.C_below (by repeat (first | (with_reducible exact HR505_0.out) | (with_reducible refine cA_ ?_ _) | (with_reducible refine cN_ ?_ _) | (with_reducible refine cD_ ?_) | exact HR505_0.out)) hb); have n10_ := Aside0.mk (Kd.C_below (by repeat (first | (with_reducible exact HR510_0.out) | (with_reducible refine cA_ ?_ _) | (with_reducible refine cN_ ?_ _) | (with_reducible refine cD_ ?_) | exact HR510_0.out)) hb); have n11_ := Aside0.mk (below_step (by repeat (first | (with_reducible first | exact HB.out | apply bA_ | apply bN_ | apply bD_) | exact HB.out)) hb); clear HO_5; clear HO_6; clear HO_7; clear HL504_0; clear HL505_0; clear HO508; clear HL510_0; clear HR504_0; clear HR505_0; clear HR510_0; clear HB; have HO_5 := n0_; have HO_6 := n1_; have HO_7 := n2_; have HL504_0 := n3_; have HL505_0 := n4_; have HO508 := n5_; have HL510_0 := n6_; have HO513 := n7_; have HR504_0 := n8_; have HR505_0 := n9_; have HR510_0 := n10_; have HB := n11_; clear n0_ n1_ n2_ n3_ n4_ n5_ n6_ n7_ n8_ n9_ n10_ n11_; (try clear hb); (try clear hb2); (try clear hk); (try clear hi); (try clear ho0))); try go_wp2_with (first | (go_at_call 14; (with_reducible refine (cadenceref2_Get.calls k3 (fun k_ => (some k_ ≠ (.slice Ao18 t494.length co18 : Value).ownBlock ∧ some k_ ≠ (.slice (some ad504) t497.length co40 : Value).ownBlock)) _ _ t491 _ _ (rd_L1 t497 x8_3) t506 t509 _ ?side1 ?side2 ?side3 A34.out).mono ?_); (case side1 => exact Kd.N_V (HO_5.out)); (case side2 => repeat (first | exact (by repeat (first | (with_reducible exact HR505_0.out) | (with_reducible refine cA_ ?_ _) | (with_reducible refine cN_ ?_ _) | (with_reducible refine cD_ ?_) | exact HR505_0.out)) | (with_reducible refine cA_ ?_ _) | (with_reducible refine cN_ ?_ _) | (with_reducible refine cD_ ?_))); (case side3 => exact HC505_0.out); rintro e w41 ⟨v507, rfl, ho0, hb⟩; have n0_ := Aside0.mk (Kd.N_below (by (with_reducible repeat (first | apply nA_ | apply nN_ | apply nD_)); exact HO_5.out) hb); have n1_ := Aside0.mk (Kd.N_below (by (with_reducible repeat (first | apply nA_ | apply nN_ | apply nD_)); exact HO_6.out) hb); have n2_ := Aside0.mk (Kd.N_below (by (with_reducible repeat (first | apply nA_ | apply nN_ | apply nD_)); exact HO_7.out) hb); have n3_ := Aside0.mk (Kd.V_below (by (with_reducible repeat (first | apply vA_ | apply vN_ | apply vD_)); exact HL504_0.out) hb); have n4_ := Aside0.mk (Kd.V_below (by (with_reducible repeat (first | apply vA_ | apply vN_ | apply vD_)); exact HL505_0.out) hb); have n5_ := Aside0.mk (Kd.V_lower (Kd.V_mono (ok' := fun k_ => some k_ ≠ (.slice Ao18 t494.length co18 : Value).ownBlock ∧ some k_ ≠ (.slice (some ad504) t497.length co40 : Value).ownBlock) ho0 (fun k_ hk_ => ⟨Or.elim hk_ (fun hs_ => hs_.1) (fun hn_ => (Kd.fresh' (Kd.N_lt (by (with_reducible repeat (first | apply nA_ | apply nN_ | apply nD_)); exact HO_6.out)) k_ hn_)), Or.elim hk_ (fun hs_ => hs_.2) (fun hn_ => (Kd.fresh' (Kd.N_lt (by (with_reducible repeat (first | apply nA_ | apply nN_ | apply nD_)); exact HO_7.out)) k_ hn_))⟩)) (below_size (by repeat (first | (with_reducible first | exact HB.out | apply bA_ | apply bN_ | apply bD_) | exact HB.out)))); have n6_ := Aside0.mk (Kd.C_below (by repeat (first | (with_reducible exact HR504_0.out) | (with_reducible refine cA_ ?_ _) | (with_reducible refine cN_ ?_ _) | (with_reducible refine cD_ ?_) | exact HR504_0.out)) hb); have n7_ := Aside0.mk (Kd.C_below (by repeat (first | (with_reducible exact HR505_0.out) | (with_reducible refine cA_ ?_ _) | (with_reducible refine cN_ ?_ _) | (with_reducible refine cD_ ?_) | exact HR505_0.out)) hb); have n8_ := Aside0.mk (below_step (by repeat (first | (with_reducible first | exact HB.out | apply bA_ | apply bN_ | apply bD_) | exact HB.out)) hb); clear HO_5; clear HO_6; clear HO_7; clear HL504_0; clear HL505_0; clear HR504_0; clear HR505_0; clear HB; have HO_5 := n0_; have HO_6 := n1_; have HO_7 := n2_; have HL504_0 := n3_; have HL505_0 := n4_; have HO508 := n5_; have HR504_0 := n6_; have HR505_0 := n7_; have HB := n8_; clear n0_ n1_ n2_ n3_ n4_ n5_ n6_ n7_ n8_; (try clear hb); (try clear hb2); (try clear hk); (try clear hi); (try clear ho0); have p510 : 0 ≤ (x8_3 : Int) := of_decide_eq_true (by first | (with_reducible assumption) | assumption); have q510 : x8_3 < (t497.length : Int) := of_decide_eq_true (by first | (with_reducible assumption) | assumption); obtain ⟨ad510, A510_0, c510_0, e510, hx510_0, hl510_0, hi510_0⟩ := at_L1 (Kd.N_reads' HO_7.out).2.2 x8_3 p510 q510; obtain rfl : ad504 = ad510 := (by injection e510); obtain ⟨ce510, hce510, hMe510, hcc510⟩ := Kd.N_get HO_7.out [] x8_3 p510 (by first | exact q510 | exact of_decide_eq_true (by first | (with_reducible assumption) | assumption) | (have e_ := (Kd.N_reads' HO_7.out).1; omega)); obtain ⟨ua510_0, uc510_0, rfl, ul510_0, ge510_0⟩ := Kd.FK_slice_open hMe510; have hv510_0 := hcc510 0 _ rfl; rw [Nat.add_zero, show ((Kd.slice 9 Kd.string)).sz = 1 from rfl, Nat.mul_one] at hv510_0; replace hv510_0 := Option.some.inj (hv510_0.symm.trans hx510_0); injection hv510_0 with hva_ hvn_ hvc_; rw [hva_] at ge510_0; rw [hvc_] at ul510_0; have HL510_0 := Aside0.mk (show Kd.V Kd.string 9 _ w.heap.size _ _ (rd_L1 t497 x8_3) from Kd.V_mk ul510_0 ge510_0); clear hva_ hvn_ hvc_ ge510_0 ul510_0; clear hcc510 hce510; have HR510_0 := Aside0.mk hi510_0; have HC510_0 := Aside0.mk hl510_0; clear hi510_0 hl510_0; replace p510 := eq_true p510; replace q510 := eq_true q510) | (go_at_call 14; (with_reducible refine (cadenceref2_Get.calls k3 (fun k_ => (some k_ ≠ (.slice Ao17 t491.length co17 : Value).ownBlock ∧ some k_ ≠ (.slice (some ad504) t497.length co40 : Value).ownBlock)) _ _ t494 _ _ (rd_L1 t497 x8_3) t511 t514 _ ?side1 ?side2 ?side3 A35.out).mono ?_); (case side1 => exact Kd.N_V (HO_6.out)); (case side2 => repeat (first | exact (by repeat (first | (with_reducible exact HR510_0.out) | (with_reducible refine cA_ ?_ _) | (with_reducible refine cN_ ?_ _) | (with_reducible refine cD_ ?_) | exact HR510_0.out)) | (with_reducible refine cA_ ?_ _) | (with_reducible refine cN_ ?_ _) | (with_reducible refine cD_ ?_))); (case side3 => exact HC510_0.out); rintro e w42 ⟨v512, rfl, ho0, hb⟩; have n0_ := Aside0.mk (Kd.N_below (by (with_reducible repeat (first | apply nA_ | apply nN_ | apply nD_)); exact HO_5.out) hb); have n1_ := Aside0.mk (Kd.N_below (by (with_reducible repeat (first | apply nA_ | apply nN_ | apply nD_)); exact HO_6.out) hb); have n2_ := Aside0.mk (Kd.N_below (by (with_reducible repeat (first | apply nA_ | apply nN_ | apply nD_)); exact HO_7.out) hb); have n3_ := Aside0.mk (Kd.V_below (by (with_reducible repeat (first | apply vA_ | apply vN_ | apply vD_)); exact HL504_0.out) hb); have n4_ := Aside0.mk (Kd.V_below (by (with_reducible repeat (first | apply vA_ | apply vN_ | apply vD_)); exact HL505_0.out) hb); have n5_ := Aside0.mk (Kd.V_below (by (with_reducible repeat (first | apply vA_ | apply vN_ | apply vD_)); exact HO508.out) hb); have n6_ := Aside0.mk (Kd.V_below (by (with_reducible repeat (first | apply vA_ | apply vN_ | apply vD_)); exact HL510_0.out) hb); have n7_ := Aside0.mk (Kd.V_lower (Kd.V_mono (ok' := fun k_ => some k_ ≠ (.slice Ao17 t491.length co17 : Value).ownBlock ∧ some k_ ≠ (.slice (some ad504) t497.length co40 : Value).ownBlock) ho0 (fun k_ hk_ => ⟨Or.elim hk_ (fun hs_ => hs_.1) (fun hn_ => (Kd.fresh' (Kd.N_lt (by (with_reducible repeat (first | apply nA_ | apply nN_ | apply nD_)); exact HO_5.out)) k_ hn_)), Or.elim hk_ (fun hs_ => hs_.2) (fun hn_ => (Kd.fresh' (Kd.N_lt (by (with_reducible repeat (first | apply nA_ | apply nN_ | apply nD_)); exact HO_7.out)) k_ hn_))⟩)) (below_size (by repeat (first | (with_reducible first | exact HB.out | apply bA_ | apply bN_ | apply bD_) | exact HB.out)))); have n8_ := Aside0.mk (Kd.C_below (by repeat (first | (with_reducible exact HR504_0.out) | (with_reducible refine cA_ ?_ _) | (with_reducible refine cN_ ?_ _) | (with_reducible refine cD_ ?_) | exact HR504_0.out)) hb); have n9_ := Aside0.mk (Kd.C_below (by repeat (first | (with_reducible exact HR505_0.out) | (with_reducible refine cA_ ?_ _) | (with_reducible refine cN_ ?_ _) | (with_reducible refine cD_ ?_) | exact HR505_0.out)) hb); have n10_ := Aside0.mk (Kd.C_below (by repeat (first | (with_reducible exact HR510_0.out) | (with_reducible refine cA_ ?_ _) | (with_reducible refine cN_ ?_ _) | (with_reducible refine cD_ ?_) | exact HR510_0.out)) hb); have n11_ := Aside0.mk (below_step (by repeat (first | (with_reducible first | exact HB.out | apply bA_ | apply bN_ | apply bD_) | exact HB.out)) hb); clear HO_5; clear HO_6; clear HO_7; clear HL504_0; clear HL505_0; clear HO508; clear HL510_0; clear HR504_0; clear HR505_0; clear HR510_0; clear HB; have HO_5 := n0_; have HO_6 := n1_; have HO_7 := n2_; have HL504_0 := n3_; have HL505_0 := n4_; have HO508 := n5_; have HL510_0 := n6_; have HO513 := n7_; have HR504_0 := n8_; have HR505_0 := n9_; have HR510_0 := n10_; have HB := n11_; clear n0_ n1_ n2_ n3_ n4_ n5_ n6_ n7_ n8_ n9_ n10_ n11_; (try clear hb); (try clear hb2); (try clear hk); (try clear hi); (try clear ho0))))
                            go_loopg [13] k3 (fun kq v13 w' => ∃ (x13_4 : Int), v13 = .int .i64 x13_4 ∧ Aside0 (cadencelaw13_DiffNone.l1 kq t491 t494 t497 x8_3 x13_4 = some r) ∧ Aside0 (kq ≤ k3) ∧ Aside0 (Kd.N k45 45 w' w.heap.size (fun k_ => some k_ ≠ ((.slice Ao18 t494.length co18) : Value).ownBlock ∧ some k_ ≠ ((.slice (some ad504) t497.length co40) : Value).ownBlock) (.slice Ao17 t491.length co17) t491) ∧ Aside0 (Kd.N k45 45 w' w.heap.size (fun k_ => some k_ ≠ ((.slice Ao17 t491.length co17) : Value).ownBlock ∧ some k_ ≠ ((.slice (some ad504) t497.length co40) : Value).ownBlock) (.slice Ao18 t494.length co18) t494) ∧ Aside0 (Kd.N (Kd.slice 9 Kd.string) 31 w' w.heap.size (fun _ => True) (.slice (some ad504) t497.length co40) t497) ∧ Aside0 (Kd.C Kd.string w' A504_0 (rd_L1 t497 x8_3).length (rd_L1 t497 x8_3)) ∧ Aside0 (Kd.C Kd.string w' A504_0 (rd_L1 t497 x8_3).length (rd_L1 t497 x8_3)) ∧ Aside0 (Kd.C Kd.string w' A510_0 (rd_L1 t497 x8_3).length (rd_L1 t497 x8_3)) ∧ Aside0 (Below w.heap.size w w'))
                            case atStart => exact ⟨(0), (by first | rfl | (simp; done) | (simp [*]; done)), H', ⟨Nat.le_refl _⟩, ⟨by (with_reducible repeat (first | apply nA_ | apply nN_ | apply nD_)); exact HO_5.out⟩, ⟨by (with_reducible repeat (first | apply nA_ | apply nN_ | apply nD_)); exact HO_6.out⟩, ⟨by (with_reducible repeat (first | apply nA_ | apply nN_ | apply nD_)); exact HO_7.out⟩, ⟨by repeat (first | (with_reducible exact HR504_0.out) | (with_reducible refine cA_ ?_ _) | (with_reducible refine cN_ ?_ _) | (with_reducible refine cD_ ?_) | exact HR504_0.out)⟩, ⟨by repeat (first | (with_reducible exact HR505_0.out) | (with_reducible refine cA_ ?_ _) | (with_reducible refine cN_ ?_ _) | (with_reducible refine cD_ ?_) | exact HR505_0.out)⟩, ⟨by repeat (first | (with_reducible exact HR510_0.out) | (with_reducible refine cA_ ?_ _) | (with_reducible refine cN_ ?_ _) | (with_reducible refine cD_ ?_) | exact HR510_0.out)⟩, ⟨by repeat (first | (with_reducible first | exact HB.out | apply bA_ | apply bN_ | apply bD_) | exact HB.out)⟩⟩
                            case round =>
                              clear H'
                              try clear c1
                              try clear c2
                              try clear p2
                              try clear c3
                              try clear c4
                              try clear c5
                              try clear p5
                              try clear q5
                              try clear hx5
                              try clear c8
                              try clear c10
                              try clear c21
                              try clear c21b0
                              try clear c21b1
                              try clear c21b2
                              try clear c29
                              try clear c30
                              try clear c30b0
                              try clear c31
                              try clear c31b0
                              try clear c32
                              try clear c32b0
                              try clear c32b1
                              try clear c32b2
                              try clear c36
                              try clear c36b0
                              try clear c36b1
                              try clear c36b2
                              try clear hx504_0
                              try clear hx505_0
                              try clear hx510_0
                              try clear p2
                              try clear p504
                              try clear p505
                              try clear p510
                              try clear q504
                              try clear q505
                              try clear q510
                              obtain ⟨x13_4, rfl, HA, HK4, HO_5, HO_6, HO_7, HR504_0, HR505_0, HR510_0, HB⟩ := hrel
                              cases gk with
                              | zero => exact absurd HA.out (by simp [cadencelaw13_DiffNone.l1])
                              | succ k4 =>
                                have H := HA.out
                                clear HA
                                simp only [cadencelaw13_DiffNone.l1] at H
                                by_cases c43 : x13_4 < x8_3
                                · rw [if_pos c43] at H
                                  have c43b0 : decide (x13_4 < x8_3) = true := decide_eq_true c43
                                  clear c43
                                  by_cases c44 : 0 ≤ x8_3
                                  · rw [if_pos c44] at H
                                    have c44b0 : decide (0 ≤ x8_3) = true := decide_eq_true c44
                                    clear c44
                                    by_cases c45 : x8_3 < (t497.length : Int)
                                    · rw [if_pos c45] at H
                                      have c45b0 : decide (x8_3 < (t497.length : Int)) = true := decide_eq_true c45
                                      clear c45
                                      by_cases c46 : 0 ≤ x13_4
                                      · rw [if_pos c46] at H
                                        have c46b0 : decide (0 ≤ x13_4) = true := decide_eq_true c46
                                        clear c46
                                        by_cases c47 : x13_4 < (t497.length : Int)
                                        · rw [if_pos c47] at H
                                          have c47b0 : decide (x13_4 < (t497.length : Int)) = true := decide_eq_true c47
                                          clear c47
                                          replace H := Option.bind_eq_some_iff.mp H
                                          obtain ⟨t517, A480, H⟩ := H
                                          replace H : (if t517 = true then (some false) else ((diff_Front.f k4 (rd_L1 t497 x13_4) (rd_L1 t497 x8_3)).bind fun t520 => (if t520 = true then (some false) else (cadencelaw13_DiffNone.l1 k4 t491 t494 t497 x8_3 (wrap64 (x13_4 + 1)))))) = some r := H
                                          have A48 := Aside0.mk A480
                                          clear A480
                                          by_cases c49 : t517 = true
                                          · subst c49
                                            have H1 : (some false) = some r := by rw [if_pos rfl] at H; exact H
                                            clear H
                                            have H := H1
                                            clear H1
                                            obtain rfl := Option.some.inj H
                                            have p515 : 0 ≤ (x8_3 : Int) := of_decide_eq_true (by first | (with_reducible assumption) | assumption)
                                            have q515 : x8_3 < (t497.length : Int) := of_decide_eq_true (by first | (with_reducible assumption) | assumption)
                                            obtain ⟨ad515, A515_0, c515_0, e515, hx515_0, hl515_0, hi515_0⟩ := at_L1 (Kd.N_reads' HO_7.out).2.2 x8_3 p515 q515
                                            obtain rfl : ad504 = ad515 := (by injection e515)
                                            obtain ⟨ce515, hce515, hMe515, hcc515⟩ := Kd.N_get HO_7.out [] x8_3 p515 (by first | exact q515 | exact of_decide_eq_true (by first | (with_reducible assumption) | assumption) | (have e_ := (Kd.N_reads' HO_7.out).1; omega))
                                            obtain ⟨ua515_0, uc515_0, rfl, ul515_0, ge515_0⟩ := Kd.FK_slice_open hMe515
                                            have hv515_0 := hcc515 0 _ rfl
                                            rw [Nat.add_zero, show ((Kd.slice 9 Kd.string)).sz = 1 from rfl, Nat.mul_one] at hv515_0
                                            replace hv515_0 := Option.some.inj (hv515_0.symm.trans hx515_0)
                                            injection hv515_0 with hva_ hvn_ hvc_
                                            rw [hva_] at ge515_0
                                            rw [hvc_] at ul515_0
                                            have HL515_0 := Aside0.mk (show Kd.V Kd.string 9 _ w.heap.size _ _ (rd_L1 t497 x8_3) from Kd.V_mk ul515_0 ge515_0)
                                            clear hva_ hvn_ hvc_ ge515_0 ul515_0
                                            clear hcc515 hce515
                                            have HR515_0 := Aside0.mk hi515_0
                                            have HC515_0 := Aside0.mk hl515_0
                                            clear hi515_0 hl515_0
                                            replace p515 := eq_true p515
                                            replace q515 := eq_true q515
                                            have p516 : 0 ≤ (x13_4 : Int) := of_decide_eq_true (by first | (with_reducible assumption) | assumption)
                                            have q516 : x13_4 < (t497.length : Int) := of_decide_eq_true (by first | (with_reducible assumption) | assumption)
                                            obtain ⟨ad516, A516_0, c516_0, e516, hx516_0, hl516_0, hi516_0⟩ := at_L1 (Kd.N_reads' HO_7.out).2.2 x13_4 p516 q516
                                            obtain rfl : ad504 = ad516 := (by injection e516)
                                            obtain ⟨ce516, hce516, hMe516, hcc516⟩ := Kd.N_get HO_7.out [] x13_4 p516 (by first | exact q516 | exact of_decide_eq_true (by first | (with_reducible assumption) | assumption) | (have e_ := (Kd.N_reads' HO_7.out).1; omega))
                                            obtain ⟨ua516_0, uc516_0, rfl, ul516_0, ge516_0⟩ := Kd.FK_slice_open hMe516
                                            have hv516_0 := hcc516 0 _ rfl
                                            rw [Nat.add_zero, show ((Kd.slice 9 Kd.string)).sz = 1 from rfl, Nat.mul_one] at hv516_0
                                            replace hv516_0 := Option.some.inj (hv516_0.symm.trans hx516_0)
                                            injection hv516_0 with hva_ hvn_ hvc_
                                            rw [hva_] at ge516_0
                                            rw [hvc_] at ul516_0
                                            have HL516_0 := Aside0.mk (show Kd.V Kd.string 9 _ w.heap.size _ _ (rd_L1 t497 x13_4) from Kd.V_mk ul516_0 ge516_0)
                                            clear hva_ hvn_ hvc_ ge516_0 ul516_0
                                            clear hcc516 hce516
                                            have HR516_0 := Aside0.mk hi516_0
                                            have HC516_0 := Aside0.mk hl516_0
                                            clear hi516_0 hl516_0
                                            replace p516 := eq_true p516
                                            replace q516 := eq_true q516
                                            go_wp2_with (first | (go_at_call 19; (with_reducible refine (diff_Front.calls k4 _ _ (rd_L1 t497 x8_3) _ _ (rd_L1 t497 x13_4) true _ ?side1 ?side2 ?side3 ?side4 A48.out).mono ?_); (case side1 => repeat (first | exact (by repeat (first | (with_reducible exact HR515_0.out) | (with_reducible refine cA_ ?_ _) | (with_reducible refine cN_ ?_ _) | (with_reducible refine cD_ ?_) | exact HR515_0.out)) | (with_reducible refine cA_ ?_ _) | (with_reducible refine cN_ ?_ _) | (with_reducible refine cD_ ?_))); (case side2 => exact HC515_0.out); (case side3 => repeat (first | exact (by repeat (first | (with_reducible exact HR516_0.out) | (with_reducible refine cA_ ?_ _) | (with_reducible refine cN_ ?_ _) | (with_reducible refine cD_ ?_) | exact HR516_0.out)) | (with_reducible refine cA_ ?_ _) | (with_reducible refine cN_ ?_ _) | (with_reducible refine cD_ ?_))); (case side4 => exact HC516_0.out); rintro e w' ⟨rfl, ⟨nd, rfl⟩⟩; (try first | exact ⟨rfl, _, World.drewN_drewN _ _ _⟩ | exact ⟨rfl, _, Eq.trans (World.drewN_drewN _ _ _) (congrArg (World.drewN _) (Nat.add_assoc _ _ _))⟩)))
                                            repeat (go_quiet (first | (go_at_call 19; (with_reducible refine (diff_Front.calls k4 _ _ (rd_L1 t497 x8_3) _ _ (rd_L1 t497 x13_4) true _ ?side1 ?side2 ?side3 ?side4 A48.out).mono ?_); (case side1 => repeat (first | exact (by repeat (first | (with_reducible exact HR515_0.out) | (with_reducible refine cA_ ?_ _) | (with_reducible refine cN_ ?_ _) | (with_reducible refine cD_ ?_) | exact HR515_0.out)) | (with_reducible refine cA_ ?_ _) | (with_reducible refine cN_ ?_ _) | (with_reducible refine cD_ ?_))); (case side2 => exact HC515_0.out); (case side3 => repeat (first | exact (by repeat (first | (with_reducible exact HR516_0.out) | (with_reducible refine cA_ ?_ _) | (with_reducible refine cN_ ?_ _) | (with_reducible refine cD_ ?_) | exact HR516_0.out)) | (with_reducible refine cA_ ?_ _) | (with_reducible refine cN_ ?_ _) | (with_reducible refine cD_ ?_))); (case side4 => exact HC516_0.out); rintro e w' ⟨rfl, ⟨nd, rfl⟩⟩; (try first | exact ⟨rfl, _, World.drewN_drewN _ _ _⟩ | exact ⟨rfl, _, Eq.trans (World.drewN_drewN _ _ _) (congrArg (World.drewN _) (Nat.add_assoc _ _ _))⟩))); try go_wp2_with (first | (go_at_call 19; (with_reducible refine (diff_Front.calls k4 _ _ (rd_L1 t497 x8_3) _ _ (rd_L1 t497 x13_4) true _ ?side1 ?side2 ?side3 ?side4 A48.out).mono ?_); (case side1 => repeat (first | exact (by repeat (first | (with_reducible exact HR515_0.out) | (with_reducible refine cA_ ?_ _) | (with_reducible refine cN_ ?_ _) | (with_reducible refine cD_ ?_) | exact HR515_0.out)) | (with_reducible refine cA_ ?_ _) | (with_reducible refine cN_ ?_ _) | (with_reducible refine cD_ ?_))); (case side2 => exact HC515_0.out); (case side3 => repeat (first | exact (by repeat (first | (with_reducible exact HR516_0.out) | (with_reducible refine cA_ ?_ _) | (with_reducible refine cN_ ?_ _) | (with_reducible refine cD_ ?_) | exact HR516_0.out)) | (with_reducible refine cA_ ?_ _) | (with_reducible refine cN_ ?_ _) | (with_reducible refine cD_ ?_))); (case side4 => exact HC516_0.out); rintro e w' ⟨rfl, ⟨nd, rfl⟩⟩; (try first | exact ⟨rfl, _, World.drewN_drewN _ _ _⟩ | exact ⟨rfl, _, Eq.trans (World.drewN_drewN _ _ _) (congrArg (World.drewN _) (Nat.add_assoc _ _ _))⟩))))
                                            go_ret
                                            exact ⟨by first | rfl | (simp [errW_none, errW_some] <;> rfl) | (simp [*, errW_none, errW_some] <;> rfl), by repeat (first | (with_reducible first | exact HB.out | apply bA_ | apply bN_ | apply bD_) | exact HB.out)⟩
                                          · replace c49 := Bool.eq_false_iff.mpr c49
                                            subst c49
                                            have H1 : ((diff_Front.f k4 (rd_L1 t497 x13_4) (rd_L1 t497 x8_3)).bind fun t520 => (if t520 = true then (some false) else (cadencelaw13_DiffNone.l1 k4 t491 t494 t497 x8_3 (wrap64 (x13_4 + 1))))) = some r := by rw [if_neg (show ¬ (false = true) by decide)] at H; exact H
                                            clear H
                                            have H := H1
                                            clear H1
                                            replace H := Option.bind_eq_some_iff.mp H
                                            obtain ⟨t520, A500, H⟩ := H
                                            replace H : (if t520 = true then (some false) else (cadencelaw13_DiffNone.l1 k4 t491 t494 t497 x8_3 (wrap64 (x13_4 + 1)))) = some r := H
                                            have A50 := Aside0.mk A500
                                            clear A500
                                            by_cases c51 : t520 = true
                                            · subst c51
                                              have H1 : (some false) = some r := by rw [if_pos rfl] at H; exact H
                                              clear H
                                              have H := H1
                                              clear H1
                                              obtain rfl := Option.some.inj H
                                              have p515 : 0 ≤ (x8_3 : Int) := of_decide_eq_true (by first | (with_reducible assumption) | assumption)
                                              have q515 : x8_3 < (t497.length : Int) := of_decide_eq_true (by first | (with_reducible assumption) | assumption)
                                              obtain ⟨ad515, A515_0, c515_0, e515, hx515_0, hl515_0, hi515_0⟩ := at_L1 (Kd.N_reads' HO_7.out).2.2 x8_3 p515 q515
                                              obtain rfl : ad504 = ad515 := (by injection e515)
                                              obtain ⟨ce515, hce515, hMe515, hcc515⟩ := Kd.N_get HO_7.out [] x8_3 p515 (by first | exact q515 | exact of_decide_eq_true (by first | (with_reducible assumption) | assumption) | (have e_ := (Kd.N_reads' HO_7.out).1; omega))
                                              obtain ⟨ua515_0, uc515_0, rfl, ul515_0, ge515_0⟩ := Kd.FK_slice_open hMe515
                                              have hv515_0 := hcc515 0 _ rfl
                                              rw [Nat.add_zero, show ((Kd.slice 9 Kd.string)).sz = 1 from rfl, Nat.mul_one] at hv515_0
                                              replace hv515_0 := Option.some.inj (hv515_0.symm.trans hx515_0)
                                              injection hv515_0 with hva_ hvn_ hvc_
                                              rw [hva_] at ge515_0
                                              rw [hvc_] at ul515_0
                                              have HL515_0 := Aside0.mk (show Kd.V Kd.string 9 _ w.heap.size _ _ (rd_L1 t497 x8_3) from Kd.V_mk ul515_0 ge515_0)
                                              clear hva_ hvn_ hvc_ ge515_0 ul515_0
                                              clear hcc515 hce515
                                              have HR515_0 := Aside0.mk hi515_0
                                              have HC515_0 := Aside0.mk hl515_0
                                              clear hi515_0 hl515_0
                                              replace p515 := eq_true p515
                                              replace q515 := eq_true q515
                                              have p516 : 0 ≤ (x13_4 : Int) := of_decide_eq_true (by first | (with_reducible assumption) | assumption)
                                              have q516 : x13_4 < (t497.length : Int) := of_decide_eq_true (by first | (with_reducible assumption) | assumption)
                                              obtain ⟨ad516, A516_0, c516_0, e516, hx516_0, hl516_0, hi516_0⟩ := at_L1 (Kd.N_reads' HO_7.out).2.2 x13_4 p516 q516
                                              obtain rfl : ad504 = ad516 := (by injection e516)
                                              obtain ⟨ce516, hce516, hMe516, hcc516⟩ := Kd.N_get HO_7.out [] x13_4 p516 (by first | exact q516 | exact of_decide_eq_true (by first | (with_reducible assumption) | assumption) | (have e_ := (Kd.N_reads' HO_7.out).1; omega))
                                              obtain ⟨ua516_0, uc516_0, rfl, ul516_0, ge516_0⟩ := Kd.FK_slice_open hMe516
                                              have hv516_0 := hcc516 0 _ rfl
                                              rw [Nat.add_zero, show ((Kd.slice 9 Kd.string)).sz = 1 from rfl, Nat.mul_one] at hv516_0
                                              replace hv516_0 := Option.some.inj (hv516_0.symm.trans hx516_0)
                                              injection hv516_0 with hva_ hvn_ hvc_
                                              rw [hva_] at ge516_0
                                              rw [hvc_] at ul516_0
                                              have HL516_0 := Aside0.mk (show Kd.V Kd.string 9 _ w.heap.size _ _ (rd_L1 t497 x13_4) from Kd.V_mk ul516_0 ge516_0)
                                              clear hva_ hvn_ hvc_ ge516_0 ul516_0
                                              clear hcc516 hce516
                                              have HR516_0 := Aside0.mk hi516_0
                                              have HC516_0 := Aside0.mk hl516_0
                                              clear hi516_0 hl516_0
                                              replace p516 := eq_true p516
                                              replace q516 := eq_true q516
                                              go_wp2_with (first | (go_at_call 19; (with_reducible refine (diff_Front.calls k4 _ _ (rd_L1 t497 x8_3) _ _ (rd_L1 t497 x13_4) false _ ?side1 ?side2 ?side3 ?side4 A48.out).mono ?_); (case side1 => repeat (first | exact (by repeat (first | (with_reducible exact HR515_0.out) | (with_reducible refine cA_ ?_ _) | (with_reducible refine cN_ ?_ _) | (with_reducible refine cD_ ?_) | exact HR515_0.out)) | (with_reducible refine cA_ ?_ _) | (with_reducible refine cN_ ?_ _) | (with_reducible refine cD_ ?_))); (case side2 => exact HC515_0.out); (case side3 => repeat (first | exact (by repeat (first | (with_reducible exact HR516_0.out) | (with_reducible refine cA_ ?_ _) | (with_reducible refine cN_ ?_ _) | (with_reducible refine cD_ ?_) | exact HR516_0.out)) | (with_reducible refine cA_ ?_ _) | (with_reducible refine cN_ ?_ _) | (with_reducible refine cD_ ?_))); (case side4 => exact HC516_0.out); rintro e w' ⟨rfl, ⟨nd, rfl⟩⟩; (try first | exact ⟨rfl, _, World.drewN_drewN _ _ _⟩ | exact ⟨rfl, _, Eq.trans (World.drewN_drewN _ _ _) (congrArg (World.drewN _) (Nat.add_assoc _ _ _))⟩); have p518 : 0 ≤ (x13_4 : Int) := of_decide_eq_true (by first | (with_reducible assumption) | assumption); have q518 : x13_4 < (t497.length : Int) := of_decide_eq_true (by first | (with_reducible assumption) | assumption); obtain ⟨ad518, A518_0, c518_0, e518, hx518_0, hl518_0, hi518_0⟩ := at_L1 (Kd.N_reads' HO_7.out).2.2 x13_4 p518 q518; obtain rfl : ad504 = ad518 := (by injection e518); obtain ⟨ce518, hce518, hMe518, hcc518⟩ := Kd.N_get HO_7.out [] x13_4 p518 (by first | exact q518 | exact of_decide_eq_true (by first | (with_reducible assumption) | assumption) | (have e_ := (Kd.N_reads' HO_7.out).1; omega)); obtain ⟨ua518_0, uc518_0, rfl, ul518_0, ge518_0⟩ := Kd.FK_slice_open hMe518; have hv518_0 := hcc518 0 _ rfl; rw [Nat.add_zero, show ((Kd.slice 9 Kd.string)).sz = 1 from rfl, Nat.mul_one] at hv518_0; replace hv518_0 := Option.some.inj (hv518_0.symm.trans hx518_0); injection hv518_0 with hva_ hvn_ hvc_; rw [hva_] at ge518_0; rw [hvc_] at ul518_0; have HL518_0 := Aside0.mk (show Kd.V Kd.string 9 _ w.heap.size _ _ (rd_L1 t497 x13_4) from Kd.V_mk ul518_0 ge518_0); clear hva_ hvn_ hvc_ ge518_0 ul518_0; clear hcc518 hce518; have HR518_0 := Aside0.mk hi518_0; have HC518_0 := Aside0.mk hl518_0; clear hi518_0 hl518_0; replace p518 := eq_true p518; replace q518 := eq_true q518; have ea_ := Option.some.inj (hx516_0.symm.trans hx518_0); injection ea_ with ea_ en_ ec_; subst ea_; subst ec_; clear en_; have p519 : 0 ≤ (x8_3 : Int) := of_decide_eq_true (by first | (with_reducible assumption) | assumption); have q519 : x8_3 < (t497.length : Int) := of_decide_eq_true (by first | (with_reducible assumption) | assumption); obtain ⟨ad519, A519_0, c519_0, e519, hx519_0, hl519_0, hi519_0⟩ := at_L1 (Kd.N_reads' HO_7.out).2.2 x8_3 p519 q519; obtain rfl : ad504 = ad519 := (by injection e519); obtain ⟨ce519, hce519, hMe519, hcc519⟩ := Kd.N_get HO_7.out [] x8_3 p519 (by first | exact q519 | exact of_decide_eq_true (by first | (with_reducible assumption) | assumption) | (have e_ := (Kd.N_reads' HO_7.out).1; omega)); obtain ⟨ua519_0, uc519_0, rfl, ul519_0, ge519_0⟩ := Kd.FK_slice_open hMe519; have hv519_0 := hcc519 0 _ rfl; rw [Nat.add_zero, show ((Kd.slice 9 Kd.string)).sz = 1 from rfl, Nat.mul_one] at hv519_0; replace hv519_0 := Option.some.inj (hv519_0.symm.trans hx519_0); injection hv519_0 with hva_ hvn_ hvc_; rw [hva_] at ge519_0; rw [hvc_] at ul519_0; have HL519_0 := Aside0.mk (show Kd.V Kd.string 9 _ w.heap.size _ _ (rd_L1 t497 x8_3) from Kd.V_mk ul519_0 ge519_0); clear hva_ hvn_ hvc_ ge519_0 ul519_0; clear hcc519 hce519; have HR519_0 := Aside0.mk hi519_0; have HC519_0 := Aside0.mk hl519_0; clear hi519_0 hl519_0; replace p519 := eq_true p519; replace q519 := eq_true q519; have ea_ := Option.some.inj (hx515_0.symm.trans hx519_0); injection ea_ with ea_ en_ ec_; subst ea_; subst ec_; clear en_) | (go_at_call 19; (with_reducible refine (diff_Front.calls k4 _ _ (rd_L1 t497 x13_4) _ _ (rd_L1 t497 x8_3) true _ ?side1 ?side2 ?side3 ?side4 A50.out).mono ?_); (case side1 => repeat (first | exact (by repeat (first | (with_reducible exact HR518_0.out) | (with_reducible refine cA_ ?_ _) | (with_reducible refine cN_ ?_ _) | (with_reducible refine cD_ ?_) | exact HR518_0.out)) | (with_reducible refine cA_ ?_ _) | (with_reducible refine cN_ ?_ _) | (with_reducible refine cD_ ?_))); (case side2 => exact HC518_0.out); (case side3 => repeat (first | exact (by repeat (first | (with_reducible exact HR519_0.out) | (with_reducible refine cA_ ?_ _) | (with_reducible refine cN_ ?_ _) | (with_reducible refine cD_ ?_) | exact HR519_0.out)) | (with_reducible refine cA_ ?_ _) | (with_reducible refine cN_ ?_ _) | (with_reducible refine cD_ ?_))); (case side4 => exact HC519_0.out); rintro e w' ⟨rfl, ⟨nd, rfl⟩⟩; (try first | exact ⟨rfl, _, World.drewN_drewN _ _ _⟩ | exact ⟨rfl, _, Eq.trans (World.drewN_drewN _ _ _) (congrArg (World.drewN _) (Nat.add_assoc _ _ _))⟩)))
                                              repeat (go_quiet (first | (go_at_call 19; (with_reducible refine (diff_Front.calls k4 _ _ (rd_L1 t497 x8_3) _ _ (rd_L1 t497 x13_4) false _ ?side1 ?side2 ?side3 ?side4 A48.out).mono ?_); (case side1 => repeat (first | exact (by repeat (first | (with_reducible exact HR515_0.out) | (with_reducible refine cA_ ?_ _) | (with_reducible refine cN_ ?_ _) | (with_reducible refine cD_ ?_) | exact HR515_0.out)) | (with_reducible refine cA_ ?_ _) | (with_reducible refine cN_ ?_ _) | (with_reducible refine cD_ ?_))); (case side2 => exact HC515_0.out); (case side3 => repeat (first | exact (by repeat (first | (with_reducible exact HR516_0.out) | (with_reducible refine cA_ ?_ _) | (with_reducible refine cN_ ?_ _) | (with_reducible refine cD_ ?_) | exact HR516_0.out)) | (with_reducible refine cA_ ?_ _) | (with_reducible refine cN_ ?_ _) | (with_reducible refine cD_ ?_))); (case side4 => exact HC516_0.out); rintro e w' ⟨rfl, ⟨nd, rfl⟩⟩; (try first | exact ⟨rfl, _, World.drewN_drewN _ _ _⟩ | exact ⟨rfl, _, Eq.trans (World.drewN_drewN _ _ _) (congrArg (World.drewN _) (Nat.add_assoc _ _ _))⟩); have p518 : 0 ≤ (x13_4 : Int) := of_decide_eq_true (by first | (with_reducible assumption) | assumption); have q518 : x13_4 < (t497.length : Int) := of_decide_eq_true (by first | (with_reducible assumption) | assumption); obtain ⟨ad518, A518_0, c518_0, e518, hx518_0, hl518_0, hi518_0⟩ := at_L1 (Kd.N_reads' HO_7.out).2.2 x13_4 p518 q518; obtain rfl : ad504 = ad518 := (by injection e518); obtain ⟨ce518, hce518, hMe518, hcc518⟩ := Kd.N_get HO_7.out [] x13_4 p518 (by first | exact q518 | exact of_decide_eq_true (by first | (with_reducible assumption) | assumption) | (have e_ := (Kd.N_reads' HO_7.out).1; omega)); obtain ⟨ua518_0, uc518_0, rfl, ul518_0, ge518_0⟩ := Kd.FK_slice_open hMe518; have hv518_0 := hcc518 0 _ rfl; rw [Nat.add_zero, show ((Kd.slice 9 Kd.string)).sz = 1 from rfl, Nat.mul_one] at hv518_0; replace hv518_0 := Option.some.inj (hv518_0.symm.trans hx518_0); injection hv518_0 with hva_ hvn_ hvc_; rw [hva_] at ge518_0; rw [hvc_] at ul518_0; have HL518_0 := Aside0.mk (show Kd.V Kd.string 9 _ w.heap.size _ _ (rd_L1 t497 x13_4) from Kd.V_mk ul518_0 ge518_0); clear hva_ hvn_ hvc_ ge518_0 ul518_0; clear hcc518 hce518; have HR518_0 := Aside0.mk hi518_0; have HC518_0 := Aside0.mk hl518_0; clear hi518_0 hl518_0; replace p518 := eq_true p518; replace q518 := eq_true q518; have ea_ := Option.some.inj (hx516_0.symm.trans hx518_0); injection ea_ with ea_ en_ ec_; subst ea_; subst ec_; clear en_; have p519 : 0 ≤ (x8_3 : Int) := of_decide_eq_true (by first | (with_reducible assumption) | assumption); have q519 : x8_3 < (t497.length : Int) := of_decide_eq_true (by first | (with_reducible assumption) | assumption); obtain ⟨ad519, A519_0, c519_0, e519, hx519_0, hl519_0, hi519_0⟩ := at_L1 (Kd.N_reads' HO_7.out).2.2 x8_3 p519 q519; obtain rfl : ad504 = ad519 := (by injection e519); obtain ⟨ce519, hce519, hMe519, hcc519⟩ := Kd.N_get HO_7.out [] x8_3 p519 (by first | exact q519 | exact of_decide_eq_true (by first | (with_reducible assumption) | assumption) | (have e_ := (Kd.N_reads' HO_7.out).1; omega)); obtain ⟨ua519_0, uc519_0, rfl, ul519_0, ge519_0⟩ := Kd.FK_slice_open hMe519; have hv519_0 := hcc519 0 _ rfl; rw [Nat.add_zero, show ((Kd.slice 9 Kd.string)).sz = 1 from rfl, Nat.mul_one] at hv519_0; replace hv519_0 := Option.some.inj (hv519_0.symm.trans hx519_0); injection hv519_0 with hva_ hvn_ hvc_; rw [hva_] at ge519_0; rw [hvc_] at ul519_0; have HL519_0 := Aside0.mk (show Kd.V Kd.string 9 _ w.heap.size _ _ (rd_L1 t497 x8_3) from Kd.V_mk ul519_0 ge519_0); clear hva_ hvn_ hvc_ ge519_0 ul519_0; clear hcc519 hce519; have HR519_0 := Aside0.mk hi519_0; have HC519_0 := Aside0.mk hl519_0; clear hi519_0 hl519_0; replace p519 := eq_true p519; replace q519 := eq_true q519; have ea_ := Option.some.inj (hx515_0.symm.trans hx519_0); injection ea_ with ea_ en_ ec_; subst ea_; subst ec_; clear en_) | (go_at_call 19; (with_reducible refine (diff_Front.calls k4 _ _ (rd_L1 t497 x13_4) _ _ (rd_L1 t497 x8_3) true _ ?side1 ?side2 ?side3 ?side4 A50.out).mono ?_); (case side1 => repeat (first | exact (by repeat (first | (with_reducible exact HR518_0.out) | (with_reducible refine cA_ ?_ _) | (with_reducible refine cN_ ?_ _) | (with_reducible refine cD_ ?_) | exact HR518_0.out)) | (with_reducible refine cA_ ?_ _) | (with_reducible refine cN_ ?_ _) | (with_reducible refine cD_ ?_))); (case side2 => exact HC518_0.out); (case side3 => repeat (first | exact (by repeat (first | (with_reducible exact HR519_0.out) | (with_reducible refine cA_ ?_ _) | (with_reducible refine cN_ ?_ _) | (with_reducible refine cD_ ?_) | exact HR519_0.out)) | (with_reducible refine cA_ ?_ _) | (with_reducible refine cN_ ?_ _) | (with_reducible refine cD_ ?_))); (case side4 => exact HC519_0.out); rintro e w' ⟨rfl, ⟨nd, rfl⟩⟩; (try first | exact ⟨rfl, _, World.drewN_drewN _ _ _⟩ | exact ⟨rfl, _, Eq.trans (World.drewN_drewN _ _ _) (congrArg (World.drewN _) (Nat.add_assoc _ _ _))⟩))); try go_wp2_with (first | (go_at_call 19; (with_reducible refine (diff_Front.calls k4 _ _ (rd_L1 t497 x8_3) _ _ (rd_L1 t497 x13_4) false _ ?side1 ?side2 ?side3 ?side4 A48.out).mono ?_); (case side1 => repeat (first | exact (by repeat (first | (with_reducible exact HR515_0.out) | (with_reducible refine cA_ ?_ _) | (with_reducible refine cN_ ?_ _) | (with_reducible refine cD_ ?_) | exact HR515_0.out)) | (with_reducible refine cA_ ?_ _) | (with_reducible refine cN_ ?_ _) | (with_reducible refine cD_ ?_))); (case side2 => exact HC515_0.out); (case side3 => repeat (first | exact (by repeat (first | (with_reducible exact HR516_0.out) | (with_reducible refine cA_ ?_ _) | (with_reducible refine cN_ ?_ _) | (with_reducible refine cD_ ?_) | exact HR516_0.out)) | (with_reducible refine cA_ ?_ _) | (with_reducible refine cN_ ?_ _) | (with_reducible refine cD_ ?_))); (case side4 => exact HC516_0.out); rintro e w' ⟨rfl, ⟨nd, rfl⟩⟩; (try first | exact ⟨rfl, _, World.drewN_drewN _ _ _⟩ | exact ⟨rfl, _, Eq.trans (World.drewN_drewN _ _ _) (congrArg (World.drewN _) (Nat.add_assoc _ _ _))⟩); have p518 : 0 ≤ (x13_4 : Int) := of_decide_eq_true (by first | (with_reducible assumption) | assumption); have q518 : x13_4 < (t497.length : Int) := of_decide_eq_true (by first | (with_reducible assumption) | assumption); obtain ⟨ad518, A518_0, c518_0, e518, hx518_0, hl518_0, hi518_0⟩ := at_L1 (Kd.N_reads' HO_7.out).2.2 x13_4 p518 q518; obtain rfl : ad504 = ad518 := (by injection e518); obtain ⟨ce518, hce518, hMe518, hcc518⟩ := Kd.N_get HO_7.out [] x13_4 p518 (by first | exact q518 | exact of_decide_eq_true (by first | (with_reducible assumption) | assumption) | (have e_ := (Kd.N_reads' HO_7.out).1; omega)); obtain ⟨ua518_0, uc518_0, rfl, ul518_0, ge518_0⟩ := Kd.FK_slice_open hMe518; have hv518_0 := hcc518 0 _ rfl; rw [Nat.add_zero, show ((Kd.slice 9 Kd.string)).sz = 1 from rfl, Nat.mul_one] at hv518_0; replace hv518_0 := Option.some.inj (hv518_0.symm.trans hx518_0); injection hv518_0 with hva_ hvn_ hvc_; rw [hva_] at ge518_0; rw [hvc_] at ul518_0; have HL518_0 := Aside0.mk (show Kd.V Kd.string 9 _ w.heap.size _ _ (rd_L1 t497 x13_4) from Kd.V_mk ul518_0 ge518_0); clear hva_ hvn_ hvc_ ge518_0 ul518_0; clear hcc518 hce518; have HR518_0 := Aside0.mk hi518_0; have HC518_0 := Aside0.mk hl518_0; clear hi518_0 hl518_0; replace p518 := eq_true p518; replace q518 := eq_true q518; have ea_ := Option.some.inj (hx516_0.symm.trans hx518_0); injection ea_ with ea_ en_ ec_; subst ea_; subst ec_; clear en_; have p519 : 0 ≤ (x8_3 : Int) := of_decide_eq_true (by first | (with_reducible assumption) | assumption); have q519 : x8_3 < (t497.length : Int) := of_decide_eq_true (by first | (with_reducible assumption) | assumption); obtain ⟨ad519, A519_0, c519_0, e519, hx519_0, hl519_0, hi519_0⟩ := at_L1 (Kd.N_reads' HO_7.out).2.2 x8_3 p519 q519; obtain rfl : ad504 = ad519 := (by injection e519); obtain ⟨ce519, hce519, hMe519, hcc519⟩ := Kd.N_get HO_7.out [] x8_3 p519 (by first | exact q519 | exact of_decide_eq_true (by first | (with_reducible assumption) | assumption) | (have e_ := (Kd.N_reads' HO_7.out).1; omega)); obtain ⟨ua519_0, uc519_0, rfl, ul519_0, ge519_0⟩ := Kd.FK_slice_open hMe519; have hv519_0 := hcc519 0 _ rfl; rw [Nat.add_zero, show ((Kd.slice 9 Kd.string)).sz = 1 from rfl, Nat.mul_one] at hv519_0; replace hv519_0 := Option.some.inj (hv519_0.symm.trans hx519_0); injection hv519_0 with hva_ hvn_ hvc_; rw [hva_] at ge519_0; rw [hvc_] at ul519_0; have HL519_0 := Aside0.mk (show Kd.V Kd.string 9 _ w.heap.size _ _ (rd_L1 t497 x8_3) from Kd.V_mk ul519_0 ge519_0); clear hva_ hvn_ hvc_ ge519_0 ul519_0; clear hcc519 hce519; have HR519_0 := Aside0.mk hi519_0; have HC519_0 := Aside0.mk hl519_0; clear hi519_0 hl519_0; replace p519 := eq_true p519; replace q519 := eq_true q519; have ea_ := Option.some.inj (hx515_0.symm.trans hx519_0); injection ea_ with ea_ en_ ec_; subst ea_; subst ec_; clear en_) | (go_at_call 19; (with_reducible refine (diff_Front.calls k4 _ _ (rd_L1 t497 x13_4) _ _ (rd_L1 t497 x8_3) true _ ?side1 ?side2 ?side3 ?side4 A50.out).mono ?_); (case side1 => repeat (first | exact (by repeat (first | (with_reducible exact HR518_0.out) | (with_reducible refine cA_ ?_ _) | (with_reducible refine cN_ ?_ _) | (with_reducible refine cD_ ?_) | exact HR518_0.out)) | (with_reducible refine cA_ ?_ _) | (with_reducible refine cN_ ?_ _) | (with_reducible refine cD_ ?_))); (case side2 => exact HC518_0.out); (case side3 => repeat (first | exact (by repeat (first | (with_reducible exact HR519_0.out) | (with_reducible refine cA_ ?_ _) | (with_reducible refine cN_ ?_ _) | (with_reducible refine cD_ ?_) | exact HR519_0.out)) | (with_reducible refine cA_ ?_ _) | (with_reducible refine cN_ ?_ _) | (with_reducible refine cD_ ?_))); (case side4 => exact HC519_0.out); rintro e w' ⟨rfl, ⟨nd, rfl⟩⟩; (try first | exact ⟨rfl, _, World.drewN_drewN _ _ _⟩ | exact ⟨rfl, _, Eq.trans (World.drewN_drewN _ _ _) (congrArg (World.drewN _) (Nat.add_assoc _ _ _))⟩))))
                                              go_ret
                                              exact ⟨by first | rfl | (simp [errW_none, errW_some] <;> rfl) | (simp [*, errW_none, errW_some] <;> rfl), by repeat (first | (with_reducible first | exact HB.out | apply bA_ | apply bN_ | apply bD_) | exact HB.out)⟩
                                            · replace c51 := Bool.eq_false_iff.mpr c51
                                              subst c51
                                              have H1 : (cadencelaw13_DiffNone.l1 k4 t491 t494 t497 x8_3 (wrap64 (x13_4 + 1))) = some r := by rw [if_neg (show ¬ (false = true) by decide)] at H; exact H
                                              clear H
                                              have H := H1
                                              clear H1
                                              have H' := Aside0.mk H
                                              clear H
                                              have p515 : 0 ≤ (x8_3 : Int) := of_decide_eq_true (by first | (with_reducible assumption) | assumption)
                                              have q515 : x8_3 < (t497.length : Int) := of_decide_eq_true (by first | (with_reducible assumption) | assumption)
                                              obtain ⟨ad515, A515_0, c515_0, e515, hx515_0, hl515_0, hi515_0⟩ := at_L1 (Kd.N_reads' HO_7.out).2.2 x8_3 p515 q515
                                              obtain rfl : ad504 = ad515 := (by injection e515)
                                              obtain ⟨ce515, hce515, hMe515, hcc515⟩ := Kd.N_get HO_7.out [] x8_3 p515 (by first | exact q515 | exact of_decide_eq_true (by first | (with_reducible assumption) | assumption) | (have e_ := (Kd.N_reads' HO_7.out).1; omega))
                                              obtain ⟨ua515_0, uc515_0, rfl, ul515_0, ge515_0⟩ := Kd.FK_slice_open hMe515
                                              have hv515_0 := hcc515 0 _ rfl
                                              rw [Nat.add_zero, show ((Kd.slice 9 Kd.string)).sz = 1 from rfl, Nat.mul_one] at hv515_0
                                              replace hv515_0 := Option.some.inj (hv515_0.symm.trans hx515_0)
                                              injection hv515_0 with hva_ hvn_ hvc_
                                              rw [hva_] at ge515_0
                                              rw [hvc_] at ul515_0
                                              have HL515_0 := Aside0.mk (show Kd.V Kd.string 9 _ w.heap.size _ _ (rd_L1 t497 x8_3) from Kd.V_mk ul515_0 ge515_0)
                                              clear hva_ hvn_ hvc_ ge515_0 ul515_0
                                              clear hcc515 hce515
                                              have HR515_0 := Aside0.mk hi515_0
                                              have HC515_0 := Aside0.mk hl515_0
                                              clear hi515_0 hl515_0
                                              replace p515 := eq_true p515
                                              replace q515 := eq_true q515
                                              have p516 : 0 ≤ (x13_4 : Int) := of_decide_eq_true (by first | (with_reducible assumption) | assumption)
                                              have q516 : x13_4 < (t497.length : Int) := of_decide_eq_true (by first | (with_reducible assumption) | assumption)
                                              obtain ⟨ad516, A516_0, c516_0, e516, hx516_0, hl516_0, hi516_0⟩ := at_L1 (Kd.N_reads' HO_7.out).2.2 x13_4 p516 q516
                                              obtain rfl : ad504 = ad516 := (by injection e516)
                                              obtain ⟨ce516, hce516, hMe516, hcc516⟩ := Kd.N_get HO_7.out [] x13_4 p516 (by first | exact q516 | exact of_decide_eq_true (by first | (with_reducible assumption) | assumption) | (have e_ := (Kd.N_reads' HO_7.out).1; omega))
                                              obtain ⟨ua516_0, uc516_0, rfl, ul516_0, ge516_0⟩ := Kd.FK_slice_open hMe516
                                              have hv516_0 := hcc516 0 _ rfl
                                              rw [Nat.add_zero, show ((Kd.slice 9 Kd.string)).sz = 1 from rfl, Nat.mul_one] at hv516_0
                                              replace hv516_0 := Option.some.inj (hv516_0.symm.trans hx516_0)
                                              injection hv516_0 with hva_ hvn_ hvc_
                                              rw [hva_] at ge516_0
                                              rw [hvc_] at ul516_0
                                              have HL516_0 := Aside0.mk (show Kd.V Kd.string 9 _ w.heap.size _ _ (rd_L1 t497 x13_4) from Kd.V_mk ul516_0 ge516_0)
                                              clear hva_ hvn_ hvc_ ge516_0 ul516_0
                                              clear hcc516 hce516
                                              have HR516_0 := Aside0.mk hi516_0
                                              have HC516_0 := Aside0.mk hl516_0
                                              clear hi516_0 hl516_0
                                              replace p516 := eq_true p516
                                              replace q516 := eq_true q516
                                              go_wp2_with (first | (go_at_call 19; (with_reducible refine (diff_Front.calls k4 _ _ (rd_L1 t497 x8_3) _ _ (rd_L1 t497 x13_4) false _ ?side1 ?side2 ?side3 ?side4 A48.out).mono ?_); (case side1 => repeat (first | exact (by repeat (first | (with_reducible exact HR515_0.out) | (with_reducible refine cA_ ?_ _) | (with_reducible refine cN_ ?_ _) | (with_reducible refine cD_ ?_) | exact HR515_0.out)) | (with_reducible refine cA_ ?_ _) | (with_reducible refine cN_ ?_ _) | (with_reducible refine cD_ ?_))); (case side2 => exact HC515_0.out); (case side3 => repeat (first | exact (by repeat (first | (with_reducible exact HR516_0.out) | (with_reducible refine cA_ ?_ _) | (with_reducible refine cN_ ?_ _) | (with_reducible refine cD_ ?_) | exact HR516_0.out)) | (with_reducible refine cA_ ?_ _) | (with_reducible refine cN_ ?_ _) | (with_reducible refine cD_ ?_))); (case side4 => exact HC516_0.out); rintro e w' ⟨rfl, ⟨nd, rfl⟩⟩; (try first | exact ⟨rfl, _, World.drewN_drewN _ _ _⟩ | exact ⟨rfl, _, Eq.trans (World.drewN_drewN _ _ _) (congrArg (World.drewN _) (Nat.add_assoc _ _ _))⟩); have p518 : 0 ≤ (x13_4 : Int) := of_decide_eq_true (by first | (with_reducible assumption) | assumption); have q518 : x13_4 < (t497.length : Int) := of_decide_eq_true (by first | (with_reducible assumption) | assumption); obtain ⟨ad518, A518_0, c518_0, e518, hx518_0, hl518_0, hi518_0⟩ := at_L1 (Kd.N_reads' HO_7.out).2.2 x13_4 p518 q518; obtain rfl : ad504 = ad518 := (by injection e518); obtain ⟨ce518, hce518, hMe518, hcc518⟩ := Kd.N_get HO_7.out [] x13_4 p518 (by first | exact q518 | exact of_decide_eq_true (by first | (with_reducible assumption) | assumption) | (have e_ := (Kd.N_reads' HO_7.out).1; omega)); obtain ⟨ua518_0, uc518_0, rfl, ul518_0, ge518_0⟩ := Kd.FK_slice_open hMe518; have hv518_0 := hcc518 0 _ rfl; rw [Nat.add_zero, show ((Kd.slice 9 Kd.string)).sz = 1 from rfl, Nat.mul_one] at hv518_0; replace hv518_0 := Option.some.inj (hv518_0.symm.trans hx518_0); injection hv518_0 with hva_ hvn_ hvc_; rw [hva_] at ge518_0; rw [hvc_] at ul518_0; have HL518_0 := Aside0.mk (show Kd.V Kd.string 9 _ w.heap.size _ _ (rd_L1 t497 x13_4) from Kd.V_mk ul518_0 ge518_0); clear hva_ hvn_ hvc_ ge518_0 ul518_0; clear hcc518 hce518; have HR518_0 := Aside0.mk hi518_0; have HC518_0 := Aside0.mk hl518_0; clear hi518_0 hl518_0; replace p518 := eq_true p518; replace q518 := eq_true q518; have ea_ := Option.some.inj (hx516_0.symm.trans hx518_0); injection ea_ with ea_ en_ ec_; subst ea_; subst ec_; clear en_; have p519 : 0 ≤ (x8_3 : Int) := of_decide_eq_true (by first | (with_reducible assumption) | assumption); have q519 : x8_3 < (t497.length : Int) := of_decide_eq_true (by first | (with_reducible assumption) | assumption); obtain ⟨ad519, A519_0, c519_0, e519, hx519_0, hl519_0, hi519_0⟩ := at_L1 (Kd.N_reads' HO_7.out).2.2 x8_3 p519 q519; obtain rfl : ad504 = ad519 := (by injection e519); obtain ⟨ce519, hce519, hMe519, hcc519⟩ := Kd.N_get HO_7.out [] x8_3 p519 (by first | exact q519 | exact of_decide_eq_true (by first | (with_reducible assumption) | assumption) | (have e_ := (Kd.N_reads' HO_7.out).1; omega)); obtain ⟨ua519_0, uc519_0, rfl, ul519_0, ge519_0⟩ := Kd.FK_slice_open hMe519; have hv519_0 := hcc519 0 _ rfl; rw [Nat.add_zero, show ((Kd.slice 9 Kd.string)).sz = 1 from rfl, Nat.mul_one] at hv519_0; replace hv519_0 := Option.some.inj (hv519_0.symm.trans hx519_0); injection hv519_0 with hva_ hvn_ hvc_; rw [hva_] at ge519_0; rw [hvc_] at ul519_0; have HL519_0 := Aside0.mk (show Kd.V Kd.string 9 _ w.heap.size _ _ (rd_L1 t497 x8_3) from Kd.V_mk ul519_0 ge519_0); clear hva_ hvn_ hvc_ ge519_0 ul519_0; clear hcc519 hce519; have HR519_0 := Aside0.mk hi519_0; have HC519_0 := Aside0.mk hl519_0; clear hi519_0 hl519_0; replace p519 := eq_true p519; replace q519 := eq_true q519; have ea_ := Option.some.inj (hx515_0.symm.trans hx519_0); injection ea_ with ea_ en_ ec_; subst ea_; subst ec_; clear en_) | (go_at_call 19; (with_reducible refine (diff_Front.calls k4 _ _ (rd_L1 t497 x13_4) _ _ (rd_L1 t497 x8_3) false _ ?side1 ?side2 ?side3 ?side4 A50.out).mono ?_); (case side1 => repeat (first | exact (by repeat (first | (with_reducible exact HR518_0.out) | (with_reducible refine cA_ ?_ _) | (with_reducible refine cN_ ?_ _) | (with_reducible refine cD_ ?_) | exact HR518_0.out)) | (with_reducible refine cA_ ?_ _) | (with_reducible refine cN_ ?_ _) | (with_reducible refine cD_ ?_))); (case side2 => exact HC518_0.out); (case side3 => repeat (first | exact (by repeat (first | (with_reducible exact HR519_0.out) | (with_reducible refine cA_ ?_ _) | (with_reducible refine cN_ ?_ _) | (with_reducible refine cD_ ?_) | exact HR519_0.out)) | (with_reducible refine cA_ ?_ _) | (with_reducible refine cN_ ?_ _) | (with_reducible refine cD_ ?_))); (case side4 => exact HC519_0.out); rintro e w' ⟨rfl, ⟨nd, rfl⟩⟩; (try first | exact ⟨rfl, _, World.drewN_drewN _ _ _⟩ | exact ⟨rfl, _, Eq.trans (World.drewN_drewN _ _ _) (congrArg (World.drewN _) (Nat.add_assoc _ _ _))⟩)))
                                              repeat (go_quiet (first | (go_at_call 19; (with_reducible refine (diff_Front.calls k4 _ _ (rd_L1 t497 x8_3) _ _ (rd_L1 t497 x13_4) false _ ?side1 ?side2 ?side3 ?side4 A48.out).mono ?_); (case side1 => repeat (first | exact (by repeat (first | (with_reducible exact HR515_0.out) | (with_reducible refine cA_ ?_ _) | (with_reducible refine cN_ ?_ _) | (with_reducible refine cD_ ?_) | exact HR515_0.out)) | (with_reducible refine cA_ ?_ _) | (with_reducible refine cN_ ?_ _) | (with_reducible refine cD_ ?_))); (case side2 => exact HC515_0.out); (case side3 => repeat (first | exact (by repeat (first | (with_reducible exact HR516_0.out) | (with_reducible refine cA_ ?_ _) | (with_reducible refine cN_ ?_ _) | (with_reducible refine cD_ ?_) | exact HR516_0.out)) | (with_reducible refine cA_ ?_ _) | (with_reducible refine cN_ ?_ _) | (with_reducible refine cD_ ?_))); (case side4 => exact HC516_0.out); rintro e w' ⟨rfl, ⟨nd, rfl⟩⟩; (try first | exact ⟨rfl, _, World.drewN_drewN _ _ _⟩ | exact ⟨rfl, _, Eq.trans (World.drewN_drewN _ _ _) (congrArg (World.drewN _) (Nat.add_assoc _ _ _))⟩); have p518 : 0 ≤ (x13_4 : Int) := of_decide_eq_true (by first | (with_reducible assumption) | assumption); have q518 : x13_4 < (t497.length : Int) := of_decide_eq_true (by first | (with_reducible assumption) | assumption); obtain ⟨ad518, A518_0, c518_0, e518, hx518_0, hl518_0, hi518_0⟩ := at_L1 (Kd.N_reads' HO_7.out).2.2 x13_4 p518 q518; obtain rfl : ad504 = ad518 := (by injection e518); obtain ⟨ce518, hce518, hMe518, hcc518⟩ := Kd.N_get HO_7.out [] x13_4 p518 (by first | exact q518 | exact of_decide_eq_true (by first | (with_reducible assumption) | assumption) | (have e_ := (Kd.N_reads' HO_7.out).1; omega)); obtain ⟨ua518_0, uc518_0, rfl, ul518_0, ge518_0⟩ := Kd.FK_slice_open hMe518; have hv518_0 := hcc518 0 _ rfl; rw [Nat.add_zero, show ((Kd.slice 9 Kd.string)).sz = 1 from rfl, Nat.mul_one] at hv518_0; replace hv518_0 := Option.some.inj (hv518_0.symm.trans hx518_0); injection hv518_0 with hva_ hvn_ hvc_; rw [hva_] at ge518_0; rw [hvc_] at ul518_0; have HL518_0 := Aside0.mk (show Kd.V Kd.string 9 _ w.heap.size _ _ (rd_L1 t497 x13_4) from Kd.V_mk ul518_0 ge518_0); clear hva_ hvn_ hvc_ ge518_0 ul518_0; clear hcc518 hce518; have HR518_0 := Aside0.mk hi518_0; have HC518_0 := Aside0.mk hl518_0; clear hi518_0 hl518_0; replace p518 := eq_true p518; replace q518 := eq_true q518; have ea_ := Option.some.inj (hx516_0.symm.trans hx518_0); injection ea_ with ea_ en_ ec_; subst ea_; subst ec_; clear en_; have p519 : 0 ≤ (x8_3 : Int) := of_decide_eq_true (by first | (with_reducible assumption) | assumption); have q519 : x8_3 < (t497.length : Int) := of_decide_eq_true (by first | (with_reducible assumption) | assumption); obtain ⟨ad519, A519_0, c519_0, e519, hx519_0, hl519_0, hi519_0⟩ := at_L1 (Kd.N_reads' HO_7.out).2.2 x8_3 p519 q519; obtain rfl : ad504 = ad519 := (by injection e519); obtain ⟨ce519, hce519, hMe519, hcc519⟩ := Kd.N_get HO_7.out [] x8_3 p519 (by first | exact q519 | exact of_decide_eq_true (by first | (with_reducible assumption) | assumption) | (have e_ := (Kd.N_reads' HO_7.out).1; omega)); obtain ⟨ua519_0, uc519_0, rfl, ul519_0, ge519_0⟩ := Kd.FK_slice_open hMe519; have hv519_0 := hcc519 0 _ rfl; rw [Nat.add_zero, show ((Kd.slice 9 Kd.string)).sz = 1 from rfl, Nat.mul_one] at hv519_0; replace hv519_0 := Option.some.inj (hv519_0.symm.trans hx519_0); injection hv519_0 with hva_ hvn_ hvc_; rw [hva_] at ge519_0; rw [hvc_] at ul519_0; have HL519_0 := Aside0.mk (show Kd.V Kd.string 9 _ w.heap.size _ _ (rd_L1 t497 x8_3) from Kd.V_mk ul519_0 ge519_0); clear hva_ hvn_ hvc_ ge519_0 ul519_0; clear hcc519 hce519; have HR519_0 := Aside0.mk hi519_0; have HC519_0 := Aside0.mk hl519_0; clear hi519_0 hl519_0; replace p519 := eq_true p519; replace q519 := eq_true q519; have ea_ := Option.some.inj (hx515_0.symm.trans hx519_0); injection ea_ with ea_ en_ ec_; subst ea_; subst ec_; clear en_) | (go_at_call 19; (with_reducible refine (diff_Front.calls k4 _ _ (rd_L1 t497 x13_4) _ _ (rd_L1 t497 x8_3) false _ ?side1 ?side2 ?side3 ?side4 A50.out).mono ?_); (case side1 => repeat (first | exact (by repeat (first | (with_reducible exact HR518_0.out) | (with_reducible refine cA_ ?_ _) | (with_reducible refine cN_ ?_ _) | (with_reducible refine cD_ ?_) | exact HR518_0.out)) | (with_reducible refine cA_ ?_ _) | (with_reducible refine cN_ ?_ _) | (with_reducible refine cD_ ?_))); (case side2 => exact HC518_0.out); (case side3 => repeat (first | exact (by repeat (first | (with_reducible exact HR519_0.out) | (with_reducible refine cA_ ?_ _) | (with_reducible refine cN_ ?_ _) | (with_reducible refine cD_ ?_) | exact HR519_0.out)) | (with_reducible refine cA_ ?_ _) | (with_reducible refine cN_ ?_ _) | (with_reducible refine cD_ ?_))); (case side4 => exact HC519_0.out); rintro e w' ⟨rfl, ⟨nd, rfl⟩⟩; (try first | exact ⟨rfl, _, World.drewN_drewN _ _ _⟩ | exact ⟨rfl, _, Eq.trans (World.drewN_drewN _ _ _) (congrArg (World.drewN _) (Nat.add_assoc _ _ _))⟩))); try go_wp2_with (first | (go_at_call 19; (with_reducible refine (diff_Front.calls k4 _ _ (rd_L1 t497 x8_3) _ _ (rd_L1 t497 x13_4) false _ ?side1 ?side2 ?side3 ?side4 A48.out).mono ?_); (case side1 => repeat (first | exact (by repeat (first | (with_reducible exact HR515_0.out) | (with_reducible refine cA_ ?_ _) | (with_reducible refine cN_ ?_ _) | (with_reducible refine cD_ ?_) | exact HR515_0.out)) | (with_reducible refine cA_ ?_ _) | (with_reducible refine cN_ ?_ _) | (with_reducible refine cD_ ?_))); (case side2 => exact HC515_0.out); (case side3 => repeat (first | exact (by repeat (first | (with_reducible exact HR516_0.out) | (with_reducible refine cA_ ?_ _) | (with_reducible refine cN_ ?_ _) | (with_reducible refine cD_ ?_) | exact HR516_0.out)) | (with_reducible refine cA_ ?_ _) | (with_reducible refine cN_ ?_ _) | (with_reducible refine cD_ ?_))); (case side4 => exact HC516_0.out); rintro e w' ⟨rfl, ⟨nd, rfl⟩⟩; (try first | exact ⟨rfl, _, World.drewN_drewN _ _ _⟩ | exact ⟨rfl, _, Eq.trans (World.drewN_drewN _ _ _) (congrArg (World.drewN _) (Nat.add_assoc _ _ _))⟩); have p518 : 0 ≤ (x13_4 : Int) := of_decide_eq_true (by first | (with_reducible assumption) | assumption); have q518 : x13_4 < (t497.length : Int) := of_decide_eq_true (by first | (with_reducible assumption) | assumption); obtain ⟨ad518, A518_0, c518_0, e518, hx518_0, hl518_0, hi518_0⟩ := at_L1 (Kd.N_reads' HO_7.out).2.2 x13_4 p518 q518; obtain rfl : ad504 = ad518 := (by injection e518); obtain ⟨ce518, hce518, hMe518, hcc518⟩ := Kd.N_get HO_7.out [] x13_4 p518 (by first | exact q518 | exact of_decide_eq_true (by first | (with_reducible assumption) | assumption) | (have e_ := (Kd.N_reads' HO_7.out).1; omega)); obtain ⟨ua518_0, uc518_0, rfl, ul518_0, ge518_0⟩ := Kd.FK_slice_open hMe518; have hv518_0 := hcc518 0 _ rfl; rw [Nat.add_zero, show ((Kd.slice 9 Kd.string)).sz = 1 from rfl, Nat.mul_one] at hv518_0; replace hv518_0 := Option.some.inj (hv518_0.symm.trans hx518_0); injection hv518_0 with hva_ hvn_ hvc_; rw [hva_] at ge518_0; rw [hvc_] at ul518_0; have HL518_0 := Aside0.mk (show Kd.V Kd.string 9 _ w.heap.size _ _ (rd_L1 t497 x13_4) from Kd.V_mk ul518_0 ge518_0); clear hva_ hvn_ hvc_ ge518_0 ul518_0; clear hcc518 hce518; have HR518_0 := Aside0.mk hi518_0; have HC518_0 := Aside0.mk hl518_0; clear hi518_0 hl518_0; replace p518 := eq_true p518; replace q518 := eq_true q518; have ea_ := Option.some.inj (hx516_0.symm.trans hx518_0); injection ea_ with ea_ en_ ec_; subst ea_; subst ec_; clear en_; have p519 : 0 ≤ (x8_3 : Int) := of_decide_eq_true (by first | (with_reducible assumption) | assumption); have q519 : x8_3 < (t497.length : Int) := of_decide_eq_true (by first | (with_reducible assumption) | assumption); obtain ⟨ad519, A519_0, c519_0, e519, hx519_0, hl519_0, hi519_0⟩ := at_L1 (Kd.N_reads' HO_7.out).2.2 x8_3 p519 q519; obtain rfl : ad504 = ad519 := (by injection e519); obtain ⟨ce519, hce519, hMe519, hcc519⟩ := Kd.N_get HO_7.out [] x8_3 p519 (by first | exact q519 | exact of_decide_eq_true (by first | (with_reducible assumption) | assumption) | (have e_ := (Kd.N_reads' HO_7.out).1; omega)); obtain ⟨ua519_0, uc519_0, rfl, ul519_0, ge519_0⟩ := Kd.FK_slice_open hMe519; have hv519_0 := hcc519 0 _ rfl; rw [Nat.add_zero, show ((Kd.slice 9 Kd.string)).sz = 1 from rfl, Nat.mul_one] at hv519_0; replace hv519_0 := Option.some.inj (hv519_0.symm.trans hx519_0); injection hv519_0 with hva_ hvn_ hvc_; rw [hva_] at ge519_0; rw [hvc_] at ul519_0; have HL519_0 := Aside0.mk (show Kd.V Kd.string 9 _ w.heap.size _ _ (rd_L1 t497 x8_3) from Kd.V_mk ul519_0 ge519_0); clear hva_ hvn_ hvc_ ge519_0 ul519_0; clear hcc519 hce519; have HR519_0 := Aside0.mk hi519_0; have HC519_0 := Aside0.mk hl519_0; clear hi519_0 hl519_0; replace p519 := eq_true p519; replace q519 := eq_true q519; have ea_ := Option.some.inj (hx515_0.symm.trans hx519_0); injection ea_ with ea_ en_ ec_; subst ea_; subst ec_; clear en_) | (go_at_call 19; (with_reducible refine (diff_Front.calls k4 _ _ (rd_L1 t497 x13_4) _ _ (rd_L1 t497 x8_3) false _ ?side1 ?side2 ?side3 ?side4 A50.out).mono ?_); (case side1 => repeat (first | exact (by repeat (first | (with_reducible exact HR518_0.out) | (with_reducible refine cA_ ?_ _) | (with_reducible refine cN_ ?_ _) | (with_reducible refine cD_ ?_) | exact HR518_0.out)) | (with_reducible refine cA_ ?_ _) | (with_reducible refine cN_ ?_ _) | (with_reducible refine cD_ ?_))); (case side2 => exact HC518_0.out); (case side3 => repeat (first | exact (by repeat (first | (with_reducible exact HR519_0.out) | (with_reducible refine cA_ ?_ _) | (with_reducible refine cN_ ?_ _) | (with_reducible refine cD_ ?_) | exact HR519_0.out)) | (with_reducible refine cA_ ?_ _) | (with_reducible refine cN_ ?_ _) | (with_reducible refine cD_ ?_))); (case side4 => exact HC519_0.out); rintro e w' ⟨rfl, ⟨nd, rfl⟩⟩; (try first | exact ⟨rfl, _, World.drewN_drewN _ _ _⟩ | exact ⟨rfl, _, Eq.trans (World.drewN_drewN _ _ _) (congrArg (World.drewN _) (Nat.add_assoc _ _ _))⟩))))
                                              go_roundg k4
                                              case measure => have := HJ4.out; have := HJ13.out; have := HK3.out; have := HK4.out; omega
                                              case rel => exact ⟨(wrap64 (x13_4 + 1)), (by first | rfl | (simp; done) | (simp [*]; done)), H', ⟨by have := HJ4.out; have := HJ13.out; have := HK3.out; have := HK4.out; omega⟩, ⟨by (with_reducible repeat (first | apply nA_ | apply nN_ | apply nD_)); exact HO_5.out⟩, ⟨by (with_reducible repeat (first | apply nA_ | apply nN_ | apply nD_)); exact HO_6.out⟩, ⟨by (with_reducible repeat (first | apply nA_ | apply nN_ | apply nD_)); exact HO_7.out⟩, ⟨by repeat (first | (with_reducible exact HR504_0.out) | (with_reducible refine cA_ ?_ _) | (with_reducible refine cN_ ?_ _) | (with_reducible refine cD_ ?_) | exact HR504_0.out)⟩, ⟨by repeat (first | (with_reducible exact HR505_0.out) | (with_reducible refine cA_ ?_ _) | (with_reducible refine cN_ ?_ _) | (with_reducible refine cD_ ?_) | exact HR505_0.out)⟩, ⟨by repeat (first | (with_reducible exact HR510_0.out) | (with_reducible refine cA_ ?_ _) | (with_reducible refine cN_ ?_ _) | (with_reducible refine cD_ ?_) | exact HR510_0.out)⟩, ⟨by repeat (first | (with_reducible first | exact HB.out | apply bA_ | apply bN_ | apply bD_) | exact HB.out)⟩⟩
                                        · rw [if_neg c47] at H
                                          exact absurd H (by simp)
                                      · rw [if_neg c46] at H
                                        exact absurd H (by simp)
                                    · rw [if_neg c45] at H
                                      exact absurd H (by simp)
                                  · rw [if_neg c44] at H
                                    exact absurd H (by simp)
                                · rw [if_neg c43] at H
                                  have c43b0 : decide (x13_4 < x8_3) = false := decide_eq_false c43
                                  clear c43
                                  have H' := Aside0.mk H
                                  clear H
                                  go_wp2
                                  repeat (go_quiet (fail); try go_wp2)
                                  go_roundg k4
                                  case measure => have := HJ4.out; have := HJ13.out; have := HK3.out; have := HK4.out; omega
                                  case rel => exact ⟨(wrap64 (x8_3 + 1)), (by first | rfl | (simp; done) | (simp [*]; done)), H', ⟨by have := HJ4.out; have := HJ13.out; have := HK3.out; have := HK4.out; omega⟩, ⟨by (with_reducible repeat (first | apply nA_ | apply nN_ | apply nD_)); exact HO_5.out⟩, ⟨by (with_reducible repeat (first | apply nA_ | apply nN_ | apply nD_)); exact HO_6.out⟩, ⟨by (with_reducible repeat (first | apply nA_ | apply nN_ | apply nD_)); exact HO_7.out⟩, ⟨by repeat (first | (with_reducible first | exact HB.out | apply bA_ | apply bN_ | apply bD_) | exact HB.out)⟩⟩
                      · rw [if_neg c31] at H
                        exact absurd H (by simp)
                    · rw [if_neg c30] at H
                      have c30b0 : decide (x8_3 < (t497.length : Int)) = false := decide_eq_false c30
                      clear c30
                      obtain rfl := Option.some.inj H
                      obtain ⟨Ao52, co52, eo52⟩ := Kd.N_slice HO_7.out
                      subst eo52
                      go_wp2
                      repeat (go_quiet (fail); try go_wp2)
                      go_ret
                      exact ⟨by first | rfl | (simp [errW_none, errW_some] <;> rfl) | (simp [*, errW_none, errW_some] <;> rfl), by repeat (first | (with_reducible first | exact HB.out | apply bA_ | apply bN_ | apply bD_) | exact HB.out)⟩
  · replace c4 := Bool.eq_false_iff.mpr c4
    subst c4
    have H1 : (some false) = some r := by rw [if_neg (show ¬ (false = true) by decide)] at H; exact H
    clear H
    have H := H1
    clear H1
    obtain rfl := Option.some.inj H
    go_enter Try.func5, Try.ntmps5
    go_wp2_with (first | (go_at_call 8; (with_reducible refine (cadencelaw13_known.calls k  false _ A3.out).mono ?_); rintro e w53 ⟨rfl, hb⟩; have n0_ := Aside0.mk (below_step (by repeat (first | (with_reducible first | exact HB.out | apply bA_ | apply bN_ | apply bD_) | exact HB.out)) hb); clear HB; have HB := n0_; clear n0_; (try clear hb); (try clear hb2); (try clear hk); (try clear hi)))
    repeat (go_quiet (first | (go_at_call 8; (with_reducible refine (cadencelaw13_known.calls k  false _ A3.out).mono ?_); rintro e w53 ⟨rfl, hb⟩; have n0_ := Aside0.mk (below_step (by repeat (first | (with_reducible first | exact HB.out | apply bA_ | apply bN_ | apply bD_) | exact HB.out)) hb); clear HB; have HB := n0_; clear n0_; (try clear hb); (try clear hb2); (try clear hk); (try clear hi))); try go_wp2_with (first | (go_at_call 8; (with_reducible refine (cadencelaw13_known.calls k  false _ A3.out).mono ?_); rintro e w53 ⟨rfl, hb⟩; have n0_ := Aside0.mk (below_step (by repeat (first | (with_reducible first | exact HB.out | apply bA_ | apply bN_ | apply bD_) | exact HB.out)) hb); clear HB; have HB := n0_; clear n0_; (try clear hb); (try clear hb2); (try clear hk); (try clear hi))))
    go_ret
    exact ⟨by first | rfl | (simp [errW_none, errW_some] <;> rfl) | (simp [*, errW_none, errW_some] <;> rfl), by repeat (first | (with_reducible first | exact HB.out | apply bA_ | apply bN_ | apply bD_) | exact HB.out)⟩

end Go.Proofs.Ytbhgocpenbibgaa.PX
/- DiffNone: what its printed function comes to. -/
set_option linter.unusedVariables false
namespace Go.Proofs.Ytbhgocpenbibgaa.PX
open Go.RowKit Go.Proofs.YtbhgocpenbibgaaW.PrintWords Go.Proofs.YtbhgocpenbibgaaW.PrintLast Go.Proofs.YtbhgocpenbibgaaW.PrintMore Go.Proofs.Ytbhgocpenbibgaa
theorem paths_nil {W d : Nat} {a b : Tr} (ha : Ok W d a) (hb : Ok W d b) : pathsM d a b = [] ↔ a = b := by
  constructor
  · intro h
    have := mends_all ha hb
    rwa [h] at this
  · rintro rfl
    exact pathsM_self ha
theorem diffNone_ev (l m : List Raw) (hl : RawOk l) (hm : RawOk m) : Ev (fun k => cadencelaw13_DiffNone.f k l m) true := by
  obtain ⟨b0, f0, e0⟩ := few_ev hl
  obtain ⟨b1, f1, e1⟩ := few_ev hm
  have out : Ev (fun k => cadencelaw13_DiffNone.j0 k l m true) true := by
    refine Ev.step (f := fun _ => some true) (fun k => ?_) (Ev.now _)
    simp only [cadencelaw13_DiffNone.j0]
    rw [if_pos trivial]
  refine Ev.congr (f := fun k => (cadencelaw13_known.f k).bind fun t => if t = true then (cadencelaw2_Few.f k l).bind fun u => (if u = true then (cadencelaw2_Few.f k m).bind fun v => cadencelaw13_DiffNone.j0 k l m (!v) else cadencelaw13_DiffNone.j0 k l m true) else some false) (fun k => by unfold cadencelaw13_DiffNone.f; rfl) (Ev.bind known_ev (Ev.congr (fun k => if_pos rfl) (Ev.bind e0 ?_)))
  cases b0 with
  | false => exact Ev.congr (fun k => if_neg Bool.false_ne_true) out
  | true =>
    refine Ev.congr (fun k => if_pos rfl) (Ev.bind e1 ?_)
    cases b1 with
    | false => exact out
    | true =>
      clear out f0 f1 e0 e1
      obtain ⟨a, ha, ea⟩ := make_ev hl 6 5 (by omega) (by omega)
      obtain ⟨b, hb, eb⟩ := make_ev hm 6 5 (by omega) (by omega)
      have p1 := paths_ev (W := 6) (by omega) (by omega) (by omega) (by decide) ha hb
      have p2 := paths_ev (W := 6) (by omega) (by omega) (by omega) (by decide) ha ha
      rw [pathsM_self ha] at p2
      have s1 := same_ev (by omega) ha hb
      have hne := fun p h => pathsM_ne (a := a) (b := b) (p := p) (d := 5) h
      have hp := fun p h => pathsM_deep a b (p := p) (d := 5) h
      have hone := fun p h => paths_one (p := p) ha hb h
      have hap := paths_apart (d := 5) a b
      have hnil := paths_nil ha hb
      have hpl : (pathsM 5 a b).length ≤ 248832 := pathsM_length (W := 6) (by omega) a b ha hb
      generalize pathsM 5 a b = P at p1 hp hpl hne hone hap hnil
      have hs : (((P.length : Int) == 0) != decide (a = b)) = false := by
        rw [bne_eq_false_iff_eq, Bool.eq_iff_iff, beq_iff_eq, decide_eq_true_eq, ← hnil, ← List.length_eq_zero_iff]
        omega
      have inner : ∀ (i : Nat) (hi : i < P.length), Ev (fun k => cadencelaw13_DiffNone.l0 k a b P ((i + 1 : Nat) : Int)) true →
          ∀ (d j : Nat), j + d = i → Ev (fun k => cadencelaw13_DiffNone.l1 k a b P (i : Int) (j : Int)) true := by
        intro i hi h0 d
        induction d with
        | zero =>
          intro j hj
          refine Ev.step (f := fun k => cadencelaw13_DiffNone.l0 k a b P ((i + 1 : Nat) : Int)) (fun k => ?_) h0
          simp only [cadencelaw13_DiffNone.l1]
          rw [if_neg (by omega), wrap_succ (by omega)]
        | succ d ih =>
          intro j hj
          have hjl : j < P.length := by omega
          have hpi := hp _ (List.getElem_mem hi)
          have hpj := hp _ (List.getElem_mem hjl)
          have h1 := front_ev P[i] P[j] (by omega)
          have h2 := front_ev P[j] P[i] (by omega)
          have h3 := List.pairwise_iff_getElem.1 hap j i hjl hi (by omega)
          rw [decide_eq_false h3.1] at h1
          rw [decide_eq_false h3.2] at h2
          refine Ev.step (f := fun k => (diff_Front.f k P[i] P[j]).bind fun u => if u = true then some false else (diff_Front.f k P[j] P[i]).bind fun v => if v = true then some false else cadencelaw13_DiffNone.l1 k a b P (i : Int) ((j + 1 : Nat) : Int)) (fun k => ?_) (Ev.bind h1 (Ev.congr (fun k => if_neg Bool.false_ne_true) (Ev.bind h2 (Ev.congr (fun k => if_neg Bool.false_ne_true) (ih (j + 1) (by omega))))))
          simp only [cadencelaw13_DiffNone.l1]
          rw [if_pos (by omega), if_pos (by omega), if_pos (by omega), if_pos (by omega), if_pos (by omega), rdL_s hi, rdL_s hjl, wrap_succ (by omega)]
      have loop : ∀ (d i : Nat), i + d = P.length → Ev (fun k => cadencelaw13_DiffNone.l0 k a b P (i : Int)) true := by
        intro d
        induction d with
        | zero =>
          intro i hi
          refine Ev.step (f := fun _ => some true) (fun k => ?_) (Ev.now _)
          simp only [cadencelaw13_DiffNone.l0]
          rw [if_neg (by omega)]
        | succ d ih =>
          intro i hi
          have hil : i < P.length := by omega
          have hpi := hp _ (List.getElem_mem hil)
          have hni := hne _ (List.getElem_mem hil)
          have hpos : 0 < P[i].length := List.length_pos_iff.2 hni
          have g1 := refGet_ev (by omega) P[i] ha (by omega)
          have g2 := refGet_ev (by omega) P[i] hb (by omega)
          have hx := hone _ (List.getElem_mem hil)
          refine Ev.step (f := fun k => (cadenceref2_Get.f k a P[i]).bind fun u => (cadenceref2_Get.f k b P[i]).bind fun v => if (u.2 == v.2) = true then some false else cadencelaw13_DiffNone.l1 k a b P (i : Int) 0) (fun k => ?_) (Ev.bind g1 (Ev.bind g2 (Ev.congr (fun k => if_neg (by simpa using hx)) (inner i hil (ih (i + 1) (by omega)) i 0 (by omega)))))
          simp only [cadencelaw13_DiffNone.l0]
          rw [if_pos (by omega), if_pos (by omega), rdL_s hil, if_neg (by omega)]
      obtain ⟨K1, h1⟩ := ea
      obtain ⟨K2, h2⟩ := eb
      obtain ⟨K3, h3⟩ := p1
      obtain ⟨K4, h4⟩ := p2
      obtain ⟨K5, h5⟩ := s1
      obtain ⟨K6, h6⟩ := loop P.length 0 (by omega)
      refine ⟨K1 + K2 + K3 + K4 + K5 + K6 + 2, fun k hk => ?_⟩
      obtain ⟨k, rfl⟩ : ∃ m, k = m + 2 := ⟨k - 2, by omega⟩
      replace h1 : cadencelaw2_Make.f (k + 1) l 6 5 = some a := h1 (k + 1) (by omega)
      replace h2 : cadencelaw2_Make.f (k + 1) m 6 5 = some b := h2 (k + 1) (by omega)
      replace h3 : diff_Paths.f (k + 1) a b = some P := h3 (k + 1) (by omega)
      replace h4 : diff_Paths.f (k + 1) a a = some [] := h4 (k + 1) (by omega)
      replace h5 : cadenceref2_Same.f (k + 1) a b = some (decide (a = b)) := h5 (k + 1) (by omega)
      replace h6 : cadencelaw13_DiffNone.l0 k a b P 0 = some true := h6 k (by omega)
      show cadencelaw13_DiffNone.j0 (k + 1 + 1) l m false = some true
      simp only [cadencelaw13_DiffNone.j0]
      rw [if_neg Bool.false_ne_true, h1, Option.bind_some, h2, Option.bind_some, h3, Option.bind_some, h5, Option.bind_some, hs, if_neg Bool.false_ne_true, h4, Option.bind_some]
      have he : (((([] : List (List ByteArray)).length : Nat) : Int) != 0) = false := rfl
      rw [he]
      simp only [cadencelaw13_DiffNone.j1]
      rw [if_neg Bool.false_ne_true, h6]
end Go.Proofs.Ytbhgocpenbibgaa.PX
set_option linter.unusedVariables false
set_option linter.unusedSimpArgs false
namespace Go.Proofs.Ytbhgocpenbibgaa.diffNone
open Go.ChangeShapes Go.WideShapes Go.ChangeAt Go.RowKit
open Go.ChangeMaps (open_string shut_string)
open Go.Proofs.Ytbhgocpenbibgaa.PX
theorem own : ownKnob Try.prog.godebug = none := by kernel_rfl
theorem laidOut : laidOutB Try.prog = true := by kernel_rfl
set_option maxRecDepth 100000 in
theorem lifted (os : Os) (started : os.Started) (H : Type) (enc : TypeId × Value → H) :
    ReturnsInHanded {} Try.checked os 5 .any (Rows.diffNoneSpec.pre6 enc Try.prog Try.f5 Rows.diffNoneRow.domain false) (Rows.diffNoneSpec.post enc Try.prog Try.f5 false true false false) := by
  refine returnsInHanded_of_change_sized (C := Try.checked) own started (by kernel_rfl) Try.func5
    (ChangeSpec.witness6 (enc := enc) (C := Try.checked) false ⟨#[], #[.slice none 0 0, .slice none 0 0], []⟩ 8 (by kernel_rfl) (by kernel_rfl) (by kernel_rfl) (by kernel_rfl)) ?_
  intro W base args ds gs before hval0 hW hcnd hsz0 _
  have hsz : (DataW.weightsEach Try.prog (Try.f5.params.toList ++ Rows.diffNoneSpec.plain.varTypes Try.prog) (ds ++ gs)).all (· ≤ reachBytes) = true := hsz0
  have hval : ∀ (j : Nat) t v, Try.f5.params[j]? = some t → args[j]? = some v → Value.okWide Try.prog W .any base t v := hval0
  have hW' := hW
  obtain ⟨p, q, hA0, hV, rfl, hfz, hnd⟩ := hW
  have hA : DataW.TrodAll enc Try.prog W 0 (fun _ => true) true Try.f5.params.toList args.toList ds p := hA0
  rw [Try.params5] at hA hval hsz
  obtain ⟨v0, vs0, d0, ds0, p0, q0, hargs, rfl, rfl, h0, r0⟩ := trodAll_cons hA
  obtain ⟨v1, vs1, d1, ds1, p1, q1, rfl, rfl, rfl, h1, r1⟩ := trodAll_cons r0
  obtain ⟨rfl, rfl, rfl⟩ := trodAll_nil r1
  obtain rfl : args = #[v0, v1] := by cases args; simp_all
  obtain ⟨rfl, rfl⟩ := trodVars_none hV
  have lt0 : ∀ x ∈ p0, x.block < W.heap.size := by obtain ⟨m, hm⟩ := h0; exact DataW.trod_lt m _ _ _ hm
  have k0 := h0
  have lt1 : ∀ x ∈ p1, x.block < W.heap.size := by obtain ⟨m, hm⟩ := h1; exact DataW.trod_lt m _ _ _ hm
  have k1 := h1
  obtain ⟨a0, c0, x0, rfl, L0, C0, R0⟩ := open_raw (okWide_slice Try.underlying22 (hval 0 22 v0 rfl rfl)) h0 hsz (j := 0) rfl rfl
  obtain ⟨a1, c1, x1, rfl, L1, C1, R1⟩ := open_raw (okWide_slice Try.underlying22 (hval 1 22 v1 rfl rfl)) h1 hsz (j := 1) rfl rfl
  clear hA0 hval0 hsz0 hsz
  obtain ⟨k, hk⟩ := (diffNone_ev x0 x1 R0 R1).rounds
  refine (cadencelaw13_DiffNone.calls k a0 c0 x0 a1 c1 x1 true W C0 L0 C1 L1 hk).mono fun e W' ⟨he, bel⟩ => ?_
  subst he
  exact ⟨_, rfl, _, _, _, [], _, [], hW', trodAll_mk1 (shut_bool Try.underlying4 _), (trodAll_cons_mk (Below.trod laidOut (by kernel_rfl) (of_decide_eq_true (by kernel_rfl)) k0 bel lt0) (trodAll_cons_mk (Below.trod laidOut (by kernel_rfl) (of_decide_eq_true (by kernel_rfl)) k1 bel lt1) trodAll_mk0)), rfl, bel.frame _, fun h => by cases h⟩

theorem over : Rows.diffNoneRow.holds Try.pinned (OpenSpec.ofChange Rows.diffNoneSpec) :=
  OpenClaim.holds_of_wide 5 Try.f5 rfl rfl rfl rfl rfl rfl rfl ⟨rfl, rfl, rfl, rfl, rfl⟩ rfl rfl rfl rfl rfl (by kernel_rfl) Try.func5 (by kernel_rfl)
    (of_decide_eq_true (by kernel_rfl)) (by unfold Func.isWrapper; first | (rw [if_pos (by decide +kernel)]; kernel_rfl) | (rw [if_neg (by decide +kernel)]; exact ⟨rfl, rfl⟩))
    (fun os started H enc _ => lifted os started H enc)

theorem proved : Rows.DiffNoneSaid := over
#print axioms proved
end Go.Proofs.Ytbhgocpenbibgaa.diffNone
