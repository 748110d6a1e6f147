/-
  The statement of 'DiffOne': the Go function returns true at every input, and its arguments read as before.
  Conditions: none.
-/
import Derived.Test.YtbhgocpenbibgaaMDiffOne1
import Derived.Test.YtbhgocpenbibgaaMDiffOne2
import Derived.Test.YtbhgocpenbibgaaMDiffOne3
import Derived.Deep.Slices
import Derived.SizedLaws
import Derived.ChangeSlices
import Derived.ChangeSame
import Derived.ChangeShapes
import Derived.ChangeAt
import Derived.WideShapes
import Derived.Test.YtbhgocpenbibgaaRows
import Derived.WalkKit
import Derived.ProofKit
import Derived.OpenShut
import Derived.ShutString
import Derived.ChangeOld
import Derived.Below
-- written by wip/tools/hybrid.py (over the kit's print.py, with functions proved by hand beside it) for this claim
namespace Go.Proofs.Ytbhgocpenbibgaa.PX
open Go.RowKit Go.Proofs.YtbhgocpenbibgaaW.PrintWords Go.Proofs.YtbhgocpenbibgaaW.PrintLast Go.Proofs.YtbhgocpenbibgaaW.PrintMore
attribute [local go_sem] max2_int min2_int max_two min_two max_three min_three max_four min_four   -- for this text's walks alone
set_option linter.unusedVariables false
set_option linter.unusedSimpArgs false

/-! ### cadencelaw13_DiffOne: function 7 -/
mutual
def cadencelaw13_DiffOne.j0 : Nat → List (S49) → List (S49) → List Int → Bool → Option (Bool)
  | 0, _, _, _, _ => none
  | k + 1, x0, x1, x2, x23 => if x23 = true then (some true) else ((cadencelaw2_Make.f k x0 6 4).bind fun t545 => ((cadencelaw2_Make.f k x1 6 4).bind fun t548 => ((cadencelaw2_Path.f k t545 x2).bind fun t551 => ((cadenceref2_Get.f k t545 t551).bind fun bt554 => ((cadenceref2_Put.f k t545 t551 t548).bind fun t558 => ((diff_Paths.f k t545 t558).bind fun t561 => (if bt554.2 = true then (cadencelaw13_DiffOne.l0 k t548 t551 bt554.1 t561 0) else (if (t561.length : Int) = 1 then (if 0 < (t561.length : Int) then ((diff_Front.f k t551 (rd_L1 t561 0)).bind fun t565 => (some t565)) else (none)) else (some false)))))))))
def cadencelaw13_DiffOne.l0 : Nat → List (S45) → List ByteArray → List (S45) → List (List ByteArray) → Int → Option (Bool)
  | 0, _, _, _, _, _ => none
  | k + 1, x8, x9, x10, x12, x13 => if x13 < (x12.length : Int) then (if 0 ≤ x13 then ((diff_Front.f k (rd_L1 x12 x13) x9).bind fun t567 => (if t567 = true then (cadencelaw13_DiffOne.l0 k x8 x9 x10 x12 (wrap64 (x13 + 1))) else (some false))) else (none)) else ((diff_Paths.f k x10 x8).bind fun t568 => (if (x12.length : Int) = (t568.length : Int) then ((cadenceref2_Same.f k x10 x8).bind fun t571 => (some (((x12.length : Int) == 0) == t571))) else (some false)))
end
def cadencelaw13_DiffOne.f (k : Nat) (l0 : List (S49)) (l1 : List (S49)) (l2 : List Int) : Option (Bool) := (cadencelaw13_known.f k).bind fun t542 => (if t542 = true then ((cadencelaw2_Few.f k l0).bind fun t543 => (if t543 = true then ((cadencelaw2_Few.f k l1).bind fun t544 => (cadencelaw13_DiffOne.j0 k l0 l1 l2 (!t544))) else (cadencelaw13_DiffOne.j0 k l0 l1 l2 true))) else (some false))
theorem cadencelaw13_DiffOne.mono_l : ∀ k, (∀ y0 y1 y2 y3, LeO (cadencelaw13_DiffOne.j0 k y0 y1 y2 y3) (cadencelaw13_DiffOne.j0 (k + 1) y0 y1 y2 y3)) ∧ (∀ y0 y1 y2 y3 y4, LeO (cadencelaw13_DiffOne.l0 k y0 y1 y2 y3 y4) (cadencelaw13_DiffOne.l0 (k + 1) y0 y1 y2 y3 y4))
  | 0 => ⟨fun _ _ _ _ r h => by simp [cadencelaw13_DiffOne.j0] at h, fun _ _ _ _ _ r h => by simp [cadencelaw13_DiffOne.l0] at h⟩
  | k + 1 => by
    obtain ⟨ih0, ih1⟩ := cadencelaw13_DiffOne.mono_l k
    refine ⟨?_, ?_⟩
    · intro y0 y1 y2 y3
      unfold cadencelaw13_DiffOne.j0
      repeat' first
      | (with_reducible exact ih0 _ _ _ _)
      | (with_reducible exact ih1 _ _ _ _ _)
      | (with_reducible exact cadencelaw13_known.mono _)
      | (with_reducible exact cadencelaw2_Few.mono _ _)
      | (with_reducible exact cadencelaw2_Make.mono _ _ _ _)
      | (with_reducible exact cadencelaw2_Path.mono _ _ _)
      | (with_reducible exact cadenceref2_Get.mono _ _ _)
      | (with_reducible exact cadenceref2_Put.mono _ _ _ _)
      | (with_reducible exact cadenceref2_Same.mono _ _ _)
      | (with_reducible exact diff_Front.mono _ _ _)
      | (with_reducible exact diff_Paths.mono _ _ _)
      | (with_reducible exact LeO.refl _)
      | (with_reducible exact LeO.none _)
      | (with_reducible refine LeO.ite ?_ ?_)
      | (with_reducible refine LeO.bind ?_ (fun _ => ?_))
      | exact ih0 _ _ _ _
      | exact ih1 _ _ _ _ _
      | exact cadencelaw13_known.mono _
      | exact cadencelaw2_Few.mono _ _
      | exact cadencelaw2_Make.mono _ _ _ _
      | exact cadencelaw2_Path.mono _ _ _
      | exact cadenceref2_Get.mono _ _ _
      | exact cadenceref2_Put.mono _ _ _ _
      | exact cadenceref2_Same.mono _ _ _
      | exact diff_Front.mono _ _ _
      | exact diff_Paths.mono _ _ _
      | exact LeO.none _
      | refine LeO.ite ?_ ?_
      | refine LeO.bind ?_ (fun _ => ?_)
    · intro y0 y1 y2 y3 y4
      unfold cadencelaw13_DiffOne.l0
      repeat' first
      | (with_reducible exact ih0 _ _ _ _)
      | (with_reducible exact ih1 _ _ _ _ _)
      | (with_reducible exact cadencelaw13_known.mono _)
      | (with_reducible exact cadencelaw2_Few.mono _ _)
      | (with_reducible exact cadencelaw2_Make.mono _ _ _ _)
      | (with_reducible exact cadencelaw2_Path.mono _ _ _)
      | (with_reducible exact cadenceref2_Get.mono _ _ _)
      | (with_reducible exact cadenceref2_Put.mono _ _ _ _)
      | (with_reducible exact cadenceref2_Same.mono _ _ _)
      | (with_reducible exact diff_Front.mono _ _ _)
      | (with_reducible exact diff_Paths.mono _ _ _)
      | (with_reducible exact LeO.refl _)
      | (with_reducible exact LeO.none _)
      | (with_reducible refine LeO.ite ?_ ?_)
      | (with_reducible refine LeO.bind ?_ (fun _ => ?_))
      | exact ih0 _ _ _ _
      | exact ih1 _ _ _ _ _
      | exact cadencelaw13_known.mono _
      | exact cadencelaw2_Few.mono _ _
      | exact cadencelaw2_Make.mono _ _ _ _
      | exact cadencelaw2_Path.mono _ _ _
      | exact cadenceref2_Get.mono _ _ _
      | exact cadenceref2_Put.mono _ _ _ _
      | exact cadenceref2_Same.mono _ _ _
      | exact diff_Front.mono _ _ _
      | exact diff_Paths.mono _ _ _
      | exact LeO.none _
      | refine LeO.ite ?_ ?_
      | refine LeO.bind ?_ (fun _ => ?_)
theorem cadencelaw13_DiffOne.mono : ∀ a0 a1 a2 k, LeO (cadencelaw13_DiffOne.f k a0 a1 a2) (cadencelaw13_DiffOne.f (k + 1) a0 a1 a2) := by
  intro a0 a1 a2 k
  obtain ⟨ih0, ih1⟩ := cadencelaw13_DiffOne.mono_l k
  unfold cadencelaw13_DiffOne.f
  repeat' first
      | (with_reducible exact ih0 _ _ _ _)
      | (with_reducible exact ih1 _ _ _ _ _)
      | (with_reducible exact cadencelaw13_known.mono _)
      | (with_reducible exact cadencelaw2_Few.mono _ _)
      | (with_reducible exact cadencelaw2_Make.mono _ _ _ _)
      | (with_reducible exact cadencelaw2_Path.mono _ _ _)
      | (with_reducible exact cadenceref2_Get.mono _ _ _)
      | (with_reducible exact cadenceref2_Put.mono _ _ _ _)
      | (with_reducible exact cadenceref2_Same.mono _ _ _)
      | (with_reducible exact diff_Front.mono _ _ _)
      | (with_reducible exact diff_Paths.mono _ _ _)
      | (with_reducible exact LeO.refl _)
      | (with_reducible exact LeO.none _)
      | (with_reducible refine LeO.ite ?_ ?_)
      | (with_reducible refine LeO.bind ?_ (fun _ => ?_))
      | exact ih0 _ _ _ _
      | exact ih1 _ _ _ _ _
      | exact cadencelaw13_known.mono _
      | exact cadencelaw2_Few.mono _ _
      | exact cadencelaw2_Make.mono _ _ _ _
      | exact cadencelaw2_Path.mono _ _ _
      | exact cadenceref2_Get.mono _ _ _
      | exact cadenceref2_Put.mono _ _ _ _
      | exact cadenceref2_Same.mono _ _ _
      | exact diff_Front.mono _ _ _
      | exact diff_Paths.mono _ _ _
      | exact LeO.none _
      | refine LeO.ite ?_ ?_
      | refine LeO.bind ?_ (fun _ => ?_)
set_option maxHeartbeats 8000000 in
set_option maxRecDepth 100000 in
theorem cadencelaw13_DiffOne.calls (k : Nat) (A0 : Option Addr) (c0 : Nat) (l0 : List (S49)) (A1 : Option Addr) (c1 : Nat) (l1 : List (S49)) (A2 : Option Addr) (c2 : Nat) (l2 : List Int) (r : Bool) (w : World) (hr0 : Kd.C k49 w A0 l0.length l0) (hc0 : l0.length ≤ c0) (hr1 : Kd.C k49 w A1 l1.length l1) (hc1 : l1.length ≤ c1) (hr2 : Kd.C (Kd.int .i64) w A2 l2.length l2) (hc2 : l2.length ≤ c2) (h : cadencelaw13_DiffOne.f k l0 l1 l2 = some r) :
    Calls Try.prog 7 #[.slice A0 l0.length c0, .slice A1 l1.length c1, .slice A2 l2.length c2] w fun e w' => e = .returned (.bool r) ∧ Below w.heap.size w w' := by
  have HR0 := Aside0.mk hr0
  have HC0 := Aside0.mk hc0
  clear hr0 hc0
  have HR1 := Aside0.mk hr1
  have HC1 := Aside0.mk hc1
  clear hr1 hc1
  have HR2 := Aside0.mk hr2
  have HC2 := Aside0.mk hc2
  clear hr2 hc2
  have HB := Aside0.mk (Below.refl w.heap.size w)
  have H : ((cadencelaw13_known.f k).bind fun t542 => (if t542 = true then ((cadencelaw2_Few.f k l0).bind fun t543 => (if t543 = true then ((cadencelaw2_Few.f k l1).bind fun t544 => (cadencelaw13_DiffOne.j0 k l0 l1 l2 (!t544))) else (cadencelaw13_DiffOne.j0 k l0 l1 l2 true))) else (some false))) = some r := h
  clear h
  replace H := Option.bind_eq_some_iff.mp H
  obtain ⟨t542, A40, H⟩ := H
  replace H : (if t542 = true then ((cadencelaw2_Few.f k l0).bind fun t543 => (if t543 = true then ((cadencelaw2_Few.f k l1).bind fun t544 => (cadencelaw13_DiffOne.j0 k l0 l1 l2 (!t544))) else (cadencelaw13_DiffOne.j0 k l0 l1 l2 true))) else (some false)) = some r := H
  have A4 := Aside0.mk A40
  clear A40
  by_cases c5 : t542 = true
  · subst c5
    have H1 : ((cadencelaw2_Few.f k l0).bind fun t543 => (if t543 = true then ((cadencelaw2_Few.f k l1).bind fun t544 => (cadencelaw13_DiffOne.j0 k l0 l1 l2 (!t544))) else (cadencelaw13_DiffOne.j0 k l0 l1 l2 true))) = some r := by rw [if_pos rfl] at H; exact H
    clear H
    have H := H1
    clear H1
    have HC6 := Aside0.mk H
    clear H
    go_enter Try.func7, Try.ntmps7
    go_upto_region 3 with (first | ((with_reducible refine gate_callee (f := 8) rfl ?_); refine goesL_ (some 14) rfl rfl Try.func8 (by kernel_rfl) rfl #[] rfl (by (try simp only [List.map_toArray, List.map_cons, List.map_nil]); first | done | rfl | (simp only [List.length_drop, List.length_take]; rfl)) ?_; (with_reducible refine (cadencelaw13_known.calls k  true _ A4.out).mono ?_); rintro e w7 ⟨rfl, hb⟩; refine ⟨_, rfl, ?_⟩; have n0_ := Aside0.mk (below_step (by repeat (first | (with_reducible first | exact HB.out | apply bA_ | apply bN_ | apply bD_) | exact HB.out)) hb); clear HB; have HB := n0_; clear n0_; (try clear hb); (try clear hb2); (try clear hk); (try clear hi)))
    (try simp only [Act.put, List.setIfInBounds_toArray, List.set_cons_zero, List.set_cons_succ])
    go_cut [23] (fun v23 wc => ∃ (kq : Nat) (x23_5 : Bool), v23 = .bool x23_5 ∧ Aside0 (cadencelaw13_DiffOne.j0 kq l0 l1 l2 x23_5 = some r) ∧ Aside0 (kq ≤ k) ∧ Aside0 (Below w.heap.size w wc))
    case first =>
      have H := HC6.out
      clear HC6
      replace H := Option.bind_eq_some_iff.mp H
      obtain ⟨t543, A80, H⟩ := H
      replace H : (if t543 = true then ((cadencelaw2_Few.f k l1).bind fun t544 => (cadencelaw13_DiffOne.j0 k l0 l1 l2 (!t544))) else (cadencelaw13_DiffOne.j0 k l0 l1 l2 true)) = some r := H
      have A8 := Aside0.mk A80
      clear A80
      by_cases c9 : t543 = true
      · subst c9
        have H1 : ((cadencelaw2_Few.f k l1).bind fun t544 => (cadencelaw13_DiffOne.j0 k l0 l1 l2 (!t544))) = some r := by rw [if_pos rfl] at H; exact H
        clear H
        have H := H1
        clear H1
        replace H := Option.bind_eq_some_iff.mp H
        obtain ⟨t544, A100, H⟩ := H
        replace H : (cadencelaw13_DiffOne.j0 k l0 l1 l2 (!t544)) = some r := H
        have A10 := Aside0.mk A100
        clear A100
        have H' := Aside0.mk H
        clear H
        go_wp2_with (first | ((with_reducible refine gate_callee (f := 9) rfl ?_); refine goesL_ (some 17) rfl rfl Try.func9 (by kernel_rfl) rfl #[.slice A0 l0.length c0] rfl (by (try simp only [List.map_toArray, List.map_cons, List.map_nil]); first | done | rfl | (simp only [List.length_drop, List.length_take]; rfl)) ?_; (with_reducible refine (cadencelaw2_Few.calls k _ _ l0 true _ ?side1 ?side2 A8.out).mono ?_); (case side1 => repeat (first | exact (Kd.C_below HR0.out HB.out) | (with_reducible refine cA_ ?_ _) | (with_reducible refine cN_ ?_ _) | (with_reducible refine cD_ ?_))); (case side2 => exact HC0.out); rintro e w' ⟨rfl, ⟨nd, rfl⟩⟩; refine ⟨_, rfl, ?_⟩) | (go_at_call 9; (with_reducible refine (cadencelaw2_Few.calls k _ _ l1 t544 _ ?side1 ?side2 A10.out).mono ?_); (case side1 => repeat (first | exact (Kd.C_below HR1.out (by repeat (first | (with_reducible first | exact HB.out | apply bA_ | apply bN_ | apply bD_) | exact HB.out))) | (with_reducible refine cA_ ?_ _) | (with_reducible refine cN_ ?_ _) | (with_reducible refine cD_ ?_))); (case side2 => exact HC1.out); rintro e w' ⟨rfl, ⟨nd, rfl⟩⟩))
        go_meet
        case rel => exact ⟨_, (!t544), (by first | rfl | (simp; done) | (simp [*]; done)), H', ⟨by first | omega | exact Nat.le_refl _⟩, ⟨by repeat (first | (with_reducible first | exact HB.out | apply bA_ | apply bN_ | apply bD_) | exact HB.out)⟩⟩
      · replace c9 := Bool.eq_false_iff.mpr c9
        subst c9
        have H1 : (cadencelaw13_DiffOne.j0 k l0 l1 l2 true) = some r := by rw [if_neg (show ¬ (false = true) by decide)] at H; exact H
        clear H
        have H := H1
        clear H1
        have H' := Aside0.mk H
        clear H
        go_wp2_with (first | ((with_reducible refine gate_callee (f := 9) rfl ?_); refine goesL_ (some 17) rfl rfl Try.func9 (by kernel_rfl) rfl #[.slice A0 l0.length c0] rfl (by (try simp only [List.map_toArray, List.map_cons, List.map_nil]); first | done | rfl | (simp only [List.length_drop, List.length_take]; rfl)) ?_; (with_reducible refine (cadencelaw2_Few.calls k _ _ l0 false _ ?side1 ?side2 A8.out).mono ?_); (case side1 => repeat (first | exact (Kd.C_below HR0.out HB.out) | (with_reducible refine cA_ ?_ _) | (with_reducible refine cN_ ?_ _) | (with_reducible refine cD_ ?_))); (case side2 => exact HC0.out); rintro e w' ⟨rfl, ⟨nd, rfl⟩⟩; refine ⟨_, rfl, ?_⟩))
        go_meet
        case rel => exact ⟨_, (true), (by first | rfl | (simp; done) | (simp [*]; done)), H', ⟨by first | omega | exact Nat.le_refl _⟩, ⟨by repeat (first | (with_reducible first | exact HB.out | apply bA_ | apply bN_ | apply bD_) | exact HB.out)⟩⟩
    case rest =>
      clear HC6
      try clear c1
      try clear c2
      try clear p2
      try clear c5
      try clear c7
      try clear c8
      try clear c9
      obtain ⟨kq, x23_5, rfl, HA, HJ5, HB⟩ := hcut
      cases kq with
      | zero => exact absurd HA.out (by simp [cadencelaw13_DiffOne.j0])
      | succ kj5 =>
        have H := HA.out
        clear HA
        simp only [cadencelaw13_DiffOne.j0] at H
        by_cases c11 : x23_5 = true
        · subst c11
          have H1 : (some true) = some r := by rw [if_pos rfl] at H; exact H
          clear H
          have H := H1
          clear H1
          obtain rfl := Option.some.inj H
          go_wp2
          go_ret
          exact ⟨by first | rfl | (simp [errW_none, errW_some] <;> rfl) | (simp [*, errW_none, errW_some] <;> rfl), by repeat (first | (with_reducible first | exact HB.out | apply bA_ | apply bN_ | apply bD_) | exact HB.out)⟩
        · replace c11 := Bool.eq_false_iff.mpr c11
          subst c11
          have H1 : ((cadencelaw2_Make.f kj5 l0 6 4).bind fun t545 => ((cadencelaw2_Make.f kj5 l1 6 4).bind fun t548 => ((cadencelaw2_Path.f kj5 t545 l2).bind fun t551 => ((cadenceref2_Get.f kj5 t545 t551).bind fun bt554 => ((cadenceref2_Put.f kj5 t545 t551 t548).bind fun t558 => ((diff_Paths.f kj5 t545 t558).bind fun t561 => (if bt554.2 = true then (cadencelaw13_DiffOne.l0 kj5 t548 t551 bt554.1 t561 0) else (if (t561.length : Int) = 1 then (if 0 < (t561.length : Int) then ((diff_Front.f kj5 t551 (rd_L1 t561 0)).bind fun t565 => (some t565)) else (none)) else (some false))))))))) = some r := by rw [if_neg (show ¬ (false = true) by decide)] at H; exact H
          clear H
          have H := H1
          clear H1
          replace H := Option.bind_eq_some_iff.mp H
          obtain ⟨t545, A120, H⟩ := H
          replace H : ((cadencelaw2_Make.f kj5 l1 6 4).bind fun t548 => ((cadencelaw2_Path.f kj5 t545 l2).bind fun t551 => ((cadenceref2_Get.f kj5 t545 t551).bind fun bt554 => ((cadenceref2_Put.f kj5 t545 t551 t548).bind fun t558 => ((diff_Paths.f kj5 t545 t558).bind fun t561 => (if bt554.2 = true then (cadencelaw13_DiffOne.l0 kj5 t548 t551 bt554.1 t561 0) else (if (t561.length : Int) = 1 then (if 0 < (t561.length : Int) then ((diff_Front.f kj5 t551 (rd_L1 t561 0)).bind fun t565 => (some t565)) else (none)) else (some false)))))))) = some r := H
          have A12 := Aside0.mk A120
          clear A120
          replace H := Option.bind_eq_some_iff.mp H
          obtain ⟨t548, A130, H⟩ := H
          replace H : ((cadencelaw2_Path.f kj5 t545 l2).bind fun t551 => ((cadenceref2_Get.f kj5 t545 t551).bind fun bt554 => ((cadenceref2_Put.f kj5 t545 t551 t548).bind fun t558 => ((diff_Paths.f kj5 t545 t558).bind fun t561 => (if bt554.2 = true then (cadencelaw13_DiffOne.l0 kj5 t548 t551 bt554.1 t561 0) else (if (t561.length : Int) = 1 then (if 0 < (t561.length : Int) then ((diff_Front.f kj5 t551 (rd_L1 t561 0)).bind fun t565 => (some t565)) else (none)) else (some false))))))) = some r := H
          have A13 := Aside0.mk A130
          clear A130
          replace H := Option.bind_eq_some_iff.mp H
          obtain ⟨t551, A140, H⟩ := H
          replace H : ((cadenceref2_Get.f kj5 t545 t551).bind fun bt554 => ((cadenceref2_Put.f kj5 t545 t551 t548).bind fun t558 => ((diff_Paths.f kj5 t545 t558).bind fun t561 => (if bt554.2 = true then (cadencelaw13_DiffOne.l0 kj5 t548 t551 bt554.1 t561 0) else (if (t561.length : Int) = 1 then (if 0 < (t561.length : Int) then ((diff_Front.f kj5 t551 (rd_L1 t561 0)).bind fun t565 => (some t565)) else (none)) else (some false)))))) = some r := H
          have A14 := Aside0.mk A140
          clear A140
          replace H := Option.bind_eq_some_iff.mp H
          obtain ⟨⟨t554, t557⟩, A150, H⟩ := H
          replace H : ((cadenceref2_Put.f kj5 t545 t551 t548).bind fun t558 => ((diff_Paths.f kj5 t545 t558).bind fun t561 => (if t557 = true then (cadencelaw13_DiffOne.l0 kj5 t548 t551 t554 t561 0) else (if (t561.length : Int) = 1 then (if 0 < (t561.length : Int) then ((diff_Front.f kj5 t551 (rd_L1 t561 0)).bind fun t565 => (some t565)) else (none)) else (some false))))) = some r := H
          have A15 := Aside0.mk A150
          clear A150
          replace H := Option.bind_eq_some_iff.mp H
          obtain ⟨t558, A160, H⟩ := H
          replace H : ((diff_Paths.f kj5 t545 t558).bind fun t561 => (if t557 = true then (cadencelaw13_DiffOne.l0 kj5 t548 t551 t554 t561 0) else (if (t561.length : Int) = 1 then (if 0 < (t561.length : Int) then ((diff_Front.f kj5 t551 (rd_L1 t561 0)).bind fun t565 => (some t565)) else (none)) else (some false)))) = some r := H
          have A16 := Aside0.mk A160
          clear A160
          replace H := Option.bind_eq_some_iff.mp H
          obtain ⟨t561, A170, H⟩ := H
          replace H : (if t557 = true then (cadencelaw13_DiffOne.l0 kj5 t548 t551 t554 t561 0) else (if (t561.length : Int) = 1 then (if 0 < (t561.length : Int) then ((diff_Front.f kj5 t551 (rd_L1 t561 0)).bind fun t565 => (some t565)) else (none)) else (some false))) = some r := H
          have A17 := Aside0.mk A170
          clear A170
          by_cases c18 : t557 = true
          · subst c18
            have H1 : (cadencelaw13_DiffOne.l0 kj5 t548 t551 t554 t561 0) = some r := by rw [if_pos rfl] at H; exact H
            clear H
            have H := H1
            clear H1
            have H' := Aside0.mk H
            clear H
            go_wp2_with (first | ((with_reducible refine gate_callee (f := 18) rfl ?_); refine goesL_ (some 25) rfl rfl Try.func18 (by kernel_rfl) rfl #[.slice A0 l0.length c0, .int .i64 6, .int .i64 4] rfl (by (try simp only [List.map_toArray, List.map_cons, List.map_nil]); first | done | rfl | (simp only [List.length_drop, List.length_take]; rfl)) ?_; (with_reducible refine (cadencelaw2_Make.calls kj5 _ _ l0 6 4 t545 _ ?side1 ?side2 A12.out).mono ?_); (case side1 => repeat (first | exact (Kd.C_below HR0.out HB.out) | (with_reducible refine cA_ ?_ _) | (with_reducible refine cN_ ?_ _) | (with_reducible refine cD_ ?_))); (case side2 => exact HC0.out); rintro e w19 ⟨v546, rfl, ho0, hb⟩; refine ⟨_, rfl, ?_⟩; have n0_ := Aside0.mk (Kd.N_lower (Kd.N_mono (ok' := fun k_ => True) ho0 (fun k_ hk_ => trivial)) (below_size (by repeat (first | (with_reducible first | exact HB.out | apply bA_ | apply bN_ | apply bD_) | exact HB.out)))); have n1_ := Aside0.mk (below_step (by repeat (first | (with_reducible first | exact HB.out | apply bA_ | apply bN_ | apply bD_) | exact HB.out)) hb); clear HB; have HO547 := n0_; have HB := n1_; clear n0_ n1_; (try clear hb); (try clear hb2); (try clear hk); (try clear hi); (try clear ho0)) | ((with_reducible refine gate_callee (f := 18) rfl ?_); refine goesL_ (some 27) rfl rfl Try.func18 (by kernel_rfl) rfl #[.slice A1 l1.length c1, .int .i64 6, .int .i64 4] rfl (by (try simp only [List.map_toArray, List.map_cons, List.map_nil]); first | done | rfl | (simp only [List.length_drop, List.length_take]; rfl)) ?_; (with_reducible refine (cadencelaw2_Make.calls kj5 _ _ l1 6 4 t548 _ ?side1 ?side2 A13.out).mono ?_); (case side1 => repeat (first | exact (Kd.C_below HR1.out HB.out) | (with_reducible refine cA_ ?_ _) | (with_reducible refine cN_ ?_ _) | (with_reducible refine cD_ ?_))); (case side2 => exact HC1.out); rintro e w20 ⟨v549, rfl, ho0, hb⟩; refine ⟨_, rfl, ?_⟩; have n0_ := Aside0.mk (Kd.N_elder' (by (with_reducible repeat (first | apply nA_ | apply nN_ | apply nD_)); exact HO547.out) (Kd.N_base ho0) hb); have n1_ := Aside0.mk (Kd.N_lower (Kd.N_mono (ok' := fun k_ => some k_ ≠ (v546 : Value).ownBlock) ho0 (fun k_ hk_ => (Kd.fresh' (Kd.N_lt (by (with_reducible repeat (first | apply nA_ | apply nN_ | apply nD_)); exact HO547.out)) k_ hk_))) (below_size (by repeat (first | (with_reducible first | exact HB.out | apply bA_ | apply bN_ | apply bD_) | exact HB.out)))); have n2_ := Aside0.mk (below_step (by repeat (first | (with_reducible first | exact HB.out | apply bA_ | apply bN_ | apply bD_) | exact HB.out)) hb); clear HO547; clear HB; have HO547 := n0_; have HO550 := n1_; have HB := n2_; clear n0_ n1_ n2_; (try clear hb); (try clear hb2); (try clear hk); (try clear hi); (try clear ho0); obtain ⟨Ao21, co21, eo21⟩ := Kd.N_slice HO547.out; subst eo21) | ((with_reducible refine gate_callee (f := 22) rfl ?_); refine goesL_ (some 30) rfl rfl Try.func22 (by kernel_rfl) rfl #[.slice Ao21 t545.length co21, .slice A2 l2.length c2] rfl (by (try simp only [List.map_toArray, List.map_cons, List.map_nil]); first | done | rfl | (simp only [List.length_drop, List.length_take]; rfl)) ?_; (with_reducible refine (cadencelaw2_Path.calls kj5 (fun k_ => (True ∧ some k_ ≠ (v549 : Value).ownBlock)) _ _ t545 _ _ l2 t551 _ ?side1 ?side2 ?side3 A14.out).mono ?_); (case side1 => exact Kd.N_V (HO547.out)); (case side2 => repeat (first | exact (Kd.C_below HR2.out HB.out) | (with_reducible refine cA_ ?_ _) | (with_reducible refine cN_ ?_ _) | (with_reducible refine cD_ ?_))); (case side3 => exact HC2.out); rintro e w22 ⟨v552, rfl, ho0, hb⟩; refine ⟨_, rfl, ?_⟩; have n0_ := Aside0.mk (Kd.N_elder' (by (with_reducible repeat (first | apply nA_ | apply nN_ | apply nD_)); exact HO547.out) (Kd.R_base ho0) hb); have n1_ := Aside0.mk (Kd.N_elder' (by (with_reducible repeat (first | apply nA_ | apply nN_ | apply nD_)); exact HO550.out) (Kd.R_base ho0) hb); have n2_ := Aside0.mk (Kd.R_lower (Kd.R_mono (ok' := fun k_ => True) ho0 (fun _ hk_ => trivial)) (below_size (by repeat (first | (with_reducible first | exact HB.out | apply bA_ | apply bN_ | apply bD_) | exact HB.out)))); have n3_ := Aside0.mk (below_step (by repeat (first | (with_reducible first | exact HB.out | apply bA_ | apply bN_ | apply bD_) | exact HB.out)) hb); clear HO547; clear HO550; clear HB; have HO547 := n0_; have HO550 := n1_; have HO553 := n2_; have HB := n3_; clear n0_ n1_ n2_ n3_; (try clear hb); (try clear hb2); (try clear hk); (try clear hi); (try clear ho0); obtain ⟨Ao23, co23, eo23⟩ := Kd.R_slice HO553.out; subst eo23) | ((with_reducible refine gate_callee (f := 14) rfl ?_); refine goesL_ (some 34) rfl rfl Try.func14 (by kernel_rfl) rfl #[.slice Ao21 t545.length co21, .slice Ao23 t551.length co23] rfl (by (try simp only [List.map_toArray, List.map_cons, List.map_nil]); first | done | rfl | (simp only [List.length_drop, List.length_take]; rfl)) ?_; (with_reducible refine (cadenceref2_Get.calls kj5 (fun k_ => ((True ∧ some k_ ≠ (v549 : Value).ownBlock) ∧ some k_ ≠ (.slice Ao23 t551.length co23 : Value).ownBlock)) _ _ t545 _ _ t551 t554 true _ ?side1 ?side2 ?side3 A15.out).mono ?_); (case side1 => exact Kd.N_V (HO547.out)); (case side2 => repeat (first | exact (Kd.R_reads' HO553.out).2.2 | (with_reducible refine cA_ ?_ _) | (with_reducible refine cN_ ?_ _) | (with_reducible refine cD_ ?_))); (case side3 => exact (Kd.R_reads' HO553.out).2.1); rintro e w24 ⟨v555, rfl, ho0, hb⟩; refine ⟨_, rfl, ?_⟩; have n0_ := Aside0.mk (Kd.N_below (by (with_reducible repeat (first | apply nA_ | apply nN_ | apply nD_)); exact HO547.out) hb); have n1_ := Aside0.mk (Kd.N_below (by (with_reducible repeat (first | apply nA_ | apply nN_ | apply nD_)); exact HO550.out) hb); have n2_ := Aside0.mk (Kd.R_below (by (with_reducible repeat (first | apply rA_ | apply rN_ | apply rD_)); exact HO553.out) hb); have n3_ := Aside0.mk (Kd.V_lower (Kd.V_mono (ok' := fun k_ => some k_ ≠ (v549 : Value).ownBlock ∧ some k_ ≠ (.slice Ao23 t551.length co23 : Value).ownBlock) ho0 (fun k_ hk_ => ⟨Or.elim hk_ (fun hs_ => hs_.1.2) (fun hn_ => (Kd.fresh' (Kd.N_lt (by (with_reducible repeat (first | apply nA_ | apply nN_ | apply nD_)); exact HO550.out)) k_ hn_)), Or.elim hk_ (fun hs_ => hs_.2) (fun hn_ => (Kd.fresh' (Kd.R_lt (by (with_reducible repeat (first | apply rA_ | apply rN_ | apply rD_)); exact HO553.out)) k_ hn_))⟩)) (below_size (by repeat (first | (with_reducible first | exact HB.out | apply bA_ | apply bN_ | apply bD_) | exact HB.out)))); have n4_ := Aside0.mk (below_step (by repeat (first | (with_reducible first | exact HB.out | apply bA_ | apply bN_ | apply bD_) | exact HB.out)) hb); clear HO547; clear HO550; clear HO553; clear HB; have HO547 := n0_; have HO550 := n1_; have HO553 := n2_; have HO556 := n3_; have HB := n4_; clear n0_ n1_ n2_ n3_ n4_; (try clear hb); (try clear hb2); (try clear hk); (try clear hi); (try clear ho0); obtain ⟨Ao25, co25, eo25⟩ := Kd.N_slice HO550.out; subst eo25) | ((with_reducible refine gate_callee (f := 15) rfl ?_); refine goesL_ (some 41) rfl rfl Try.func15 (by kernel_rfl) rfl #[.slice Ao21 t545.length co21, .slice Ao23 t551.length co23, .slice Ao25 t548.length co25] rfl (by (try simp only [List.map_toArray, List.map_cons, List.map_nil]); first | done | rfl | (simp only [List.length_drop, List.length_take]; rfl)) ?_; (with_reducible refine (cadenceref2_Put.calls kj5 (fun k_ => ((True ∧ some k_ ≠ (.slice Ao25 t548.length co25 : Value).ownBlock) ∧ some k_ ≠ (.slice Ao23 t551.length co23 : Value).ownBlock)) _ _ t545 _ _ t551 (fun k_ => (some k_ ≠ (.slice Ao21 t545.length co21 : Value).ownBlock ∧ some k_ ≠ (.slice Ao23 t551.length co23 : Value).ownBlock)) _ _ t548 t558 _ ?side1 ?side2 ?side3 ?side4 A16.out).mono ?_); (case side1 => exact Kd.N_V (HO547.out)); (case side2 => repeat (first | exact (Kd.R_reads' HO553.out).2.2 | (with_reducible refine cA_ ?_ _) | (with_reducible refine cN_ ?_ _) | (with_reducible refine cD_ ?_))); (case side3 => exact (Kd.R_reads' HO553.out).2.1); (case side4 => exact Kd.N_V (HO550.out)); rintro e w26 ⟨v559, rfl, ho0, hb⟩; refine ⟨_, rfl, ?_⟩; have n0_ := Aside0.mk (Kd.N_below (by (with_reducible repeat (first | apply nA_ | apply nN_ | apply nD_)); exact HO547.out) hb); have n1_ := Aside0.mk (Kd.N_below (by (with_reducible repeat (first | apply nA_ | apply nN_ | apply nD_)); exact HO550.out) hb); have n2_ := Aside0.mk (Kd.R_below (by (with_reducible repeat (first | apply rA_ | apply rN_ | apply rD_)); exact HO553.out) hb); have n3_ := Aside0.mk (Kd.V_below (by (with_reducible repeat (first | apply vA_ | apply vN_ | apply vD_)); exact HO556.out) hb); have n4_ := Aside0.mk (Kd.V_lower (Kd.V_mono (ok' := fun k_ => some k_ ≠ (.slice Ao23 t551.length co23 : Value).ownBlock) ho0 (fun k_ hk_ => Or.elim hk_ (fun hs_ => Or.elim hs_ (fun hs_ => hs_.2) (fun hs_ => hs_.2)) (fun hn_ => (Kd.fresh' (Kd.R_lt (by (with_reducible repeat (first | apply rA_ | apply rN_ | apply rD_)); exact HO553.out)) k_ hn_)))) (below_size (by repeat (first | (with_reducible first | exact HB.out | apply bA_ | apply bN_ | apply bD_) | exact HB.out)))); have n5_ := Aside0.mk (below_step (by repeat (first | (with_reducible first | exact HB.out | apply bA_ | apply bN_ | apply bD_) | exact HB.out)) hb); clear HO547; clear HO550; clear HO553; clear HO556; clear HB; have HO547 := n0_; have HO550 := n1_; have HO553 := n2_; have HO556 := n3_; have HO560 := n4_; have HB := n5_; clear n0_ n1_ n2_ n3_ n4_ n5_; (try clear hb); (try clear hb2); (try clear hk); (try clear hi); (try clear ho0); obtain ⟨Ao27, co27, eo27⟩ := Kd.V_slice HO560.out; subst eo27) | ((with_reducible refine gate_callee (f := 11) rfl ?_); refine goesL_ (some 42) rfl rfl Try.func11 (by kernel_rfl) rfl #[.slice Ao21 t545.length co21, .slice Ao27 t558.length co27] rfl (by (try simp only [List.map_toArray, List.map_cons, List.map_nil]); first | done | rfl | (simp only [List.length_drop, List.length_take]; rfl)) ?_; (with_reducible refine (diff_Paths.calls kj5 (fun k_ => ((True ∧ some k_ ≠ (.slice Ao25 t548.length co25 : Value).ownBlock) ∧ some k_ ≠ (.slice Ao23 t551.length co23 : Value).ownBlock)) _ _ t545 (fun k_ => some k_ ≠ (.slice Ao23 t551.length co23 : Value).ownBlock) _ _ t558 t561 _ ?side1 ?side2 A17.out).mono ?_); (case side1 => exact Kd.N_V (HO547.out)); (case side2 => exact HO560.out); rintro e w28 ⟨v562, rfl, ho0, hb⟩; refine ⟨_, rfl, ?_⟩; have n0_ := Aside0.mk (Kd.N_elder' (by (with_reducible repeat (first | apply nA_ | apply nN_ | apply nD_)); exact HO547.out) (Kd.N_base ho0) hb); have n1_ := Aside0.mk (Kd.N_elder' (by (with_reducible repeat (first | apply nA_ | apply nN_ | apply nD_)); exact HO550.out) (Kd.N_base ho0) hb); have n2_ := Aside0.mk (Kd.R_below (by (with_reducible repeat (first | apply rA_ | apply rN_ | apply rD_)); exact HO553.out) hb); have n3_ := Aside0.mk (Kd.V_elder' (by (with_reducible repeat (first | apply vA_ | apply vN_ | apply vD_)); exact HO556.out) (Kd.N_base ho0) hb); have n4_ := Aside0.mk (Kd.V_elder' (by (with_reducible repeat (first | apply vA_ | apply vN_ | apply vD_)); exact HO560.out) (Kd.N_base ho0) hb); have n5_ := Aside0.mk (Kd.N_lower (Kd.N_mono (ok' := fun k_ => some k_ ≠ (.slice Ao23 t551.length co23 : Value).ownBlock) ho0 (fun k_ hk_ => Or.elim hk_ (fun hs_ => Or.elim hs_ (fun hs_ => hs_.2) (fun hs_ => hs_)) (fun hn_ => (Kd.fresh' (Kd.R_lt (by (with_reducible repeat (first | apply rA_ | apply rN_ | apply rD_)); exact HO553.out)) k_ hn_)))) (below_size (by repeat (first | (with_reducible first | exact HB.out | apply bA_ | apply bN_ | apply bD_) | exact HB.out)))); have n6_ := Aside0.mk (below_step (by repeat (first | (with_reducible first | exact HB.out | apply bA_ | apply bN_ | apply bD_) | exact HB.out)) hb); clear HO547; clear HO550; clear HO553; clear HO556; clear HO560; clear HB; have HO547 := n0_; have HO550 := n1_; have HO553 := n2_; have HO556 := n3_; have HO560 := n4_; have HO563 := n5_; have HB := n6_; clear n0_ n1_ n2_ n3_ n4_ n5_ n6_; (try clear hb); (try clear hb2); (try clear hk); (try clear hi); (try clear ho0)))
            go_loopg [13] kj5 (fun kq v13 w' => ∃ (x13_2 : Int), v13 = .int .i64 x13_2 ∧ Aside0 (cadencelaw13_DiffOne.l0 kq t548 t551 t554 t561 x13_2 = some r) ∧ Aside0 (kq ≤ kj5) ∧ Aside0 (Kd.N k45 45 w' w.heap.size (fun k_ => some k_ ≠ ((.slice Ao23 t551.length co23) : Value).ownBlock ∧ some k_ ≠ (v562 : Value).ownBlock) (.slice Ao25 t548.length co25) t548) ∧ Aside0 (Kd.R Kd.string 9 w' w.heap.size (fun _ => True) (.slice Ao23 t551.length co23) t551) ∧ Aside0 (Kd.V k45 45 w' w.heap.size (fun k_ => some k_ ≠ ((.slice Ao25 t548.length co25) : Value).ownBlock ∧ some k_ ≠ ((.slice Ao23 t551.length co23) : Value).ownBlock ∧ some k_ ≠ (v562 : Value).ownBlock) v555 t554) ∧ Aside0 (Kd.N (Kd.slice 9 Kd.string) 31 w' w.heap.size (fun k_ => some k_ ≠ ((.slice Ao23 t551.length co23) : Value).ownBlock) v562 t561) ∧ Aside0 (Below w.heap.size w w'))
            case atStart => exact ⟨(0), (by first | rfl | (simp; done) | (simp [*]; done)), H', ⟨Nat.le_refl _⟩, ⟨by (with_reducible repeat (first | apply nA_ | apply nN_ | apply nD_)); exact Kd.N_mono HO550.out (fun _ hk => ⟨hk.1.2, hk.2⟩)⟩, ⟨by (with_reducible repeat (first | apply rA_ | apply rN_ | apply rD_)); exact HO553.out⟩, ⟨by (with_reducible repeat (first | apply vA_ | apply vN_ | apply vD_)); exact Kd.V_mono HO556.out (fun _ hk => ⟨hk.1.1, ⟨hk.1.2, hk.2⟩⟩)⟩, ⟨by (with_reducible repeat (first | apply nA_ | apply nN_ | apply nD_)); exact HO563.out⟩, ⟨by repeat (first | (with_reducible first | exact HB.out | apply bA_ | apply bN_ | apply bD_) | exact HB.out)⟩⟩
            case round =>
              clear H'
              try clear c1
              try clear c2
              try clear p2
              try clear c5
              try clear c7
              try clear c8
              try clear c9
              try clear c11
              try clear c14
              try clear c15
              try clear c18
              try clear c22
              try clear p2
              obtain ⟨x13_2, rfl, HA, HK2, HO_8, HO_9, HO_10, HO_12, HB⟩ := hrel
              cases gk with
              | zero => exact absurd HA.out (by simp [cadencelaw13_DiffOne.l0])
              | succ k2 =>
                have H := HA.out
                clear HA
                simp only [cadencelaw13_DiffOne.l0] at H
                by_cases c29 : x13_2 < (t561.length : Int)
                · rw [if_pos c29] at H
                  have c29b0 : decide (x13_2 < (t561.length : Int)) = true := decide_eq_true c29
                  clear c29
                  by_cases c30 : 0 ≤ x13_2
                  · rw [if_pos c30] at H
                    have c30b0 : decide (0 ≤ x13_2) = true := decide_eq_true c30
                    clear c30
                    replace H := Option.bind_eq_some_iff.mp H
                    obtain ⟨t567, A310, H⟩ := H
                    replace H : (if t567 = true then (cadencelaw13_DiffOne.l0 k2 t548 t551 t554 t561 (wrap64 (x13_2 + 1))) else (some false)) = some r := H
                    have A31 := Aside0.mk A310
                    clear A310
                    by_cases c32 : t567 = true
                    · subst c32
                      have H1 : (cadencelaw13_DiffOne.l0 k2 t548 t551 t554 t561 (wrap64 (x13_2 + 1))) = some r := by rw [if_pos rfl] at H; exact H
                      clear H
                      have H := H1
                      clear H1
                      have H' := Aside0.mk H
                      clear H
                      obtain ⟨Ao33, co33, eo33⟩ := Kd.N_slice HO_12.out
                      subst eo33
                      have p566 : 0 ≤ (x13_2 : Int) := of_decide_eq_true (by first | (with_reducible assumption) | assumption)
                      have q566 : x13_2 < (t561.length : Int) := of_decide_eq_true (by first | (with_reducible assumption) | assumption)
                      obtain ⟨ad566, A566_0, c566_0, e566, hx566_0, hl566_0, hi566_0⟩ := at_L1 (Kd.N_reads' HO_12.out).2.2 x13_2 p566 q566
                      cases e566
                      obtain ⟨ce566, hce566, hMe566, hcc566⟩ := Kd.N_get HO_12.out [] x13_2 p566 (by first | exact q566 | exact of_decide_eq_true (by first | (with_reducible assumption) | assumption) | (have e_ := (Kd.N_reads' HO_12.out).1; omega))
                      obtain ⟨ua566_0, uc566_0, rfl, ul566_0, ge566_0⟩ := Kd.FK_slice_open hMe566
                      have hv566_0 := hcc566 0 _ rfl
                      rw [Nat.add_zero, show ((Kd.slice 9 Kd.string)).sz = 1 from rfl, Nat.mul_one] at hv566_0
                      replace hv566_0 := Option.some.inj (hv566_0.symm.trans hx566_0)
                      injection hv566_0 with hva_ hvn_ hvc_
                      rw [hva_] at ge566_0
                      rw [hvc_] at ul566_0
                      have HL566_0 := Aside0.mk (show Kd.V Kd.string 9 _ w.heap.size _ _ (rd_L1 t561 x13_2) from Kd.V_mk ul566_0 ge566_0)
                      clear hva_ hvn_ hvc_ ge566_0 ul566_0
                      clear hcc566 hce566
                      have HR566_0 := Aside0.mk hi566_0
                      have HC566_0 := Aside0.mk hl566_0
                      clear hi566_0 hl566_0
                      replace p566 := eq_true p566
                      replace q566 := eq_true q566
                      go_wp2_with (first | ((with_reducible refine gate_callee (f := 19) rfl ?_); refine goesL_ (some 66) rfl rfl Try.func19 (by kernel_rfl) rfl #[.slice A566_0 (rd_L1 t561 x13_2).length c566_0, .slice Ao23 t551.length co23] rfl (by (try simp only [List.map_toArray, List.map_cons, List.map_nil]); first | done | rfl | (simp only [List.length_drop, List.length_take]; rfl)) ?_; (with_reducible refine (diff_Front.calls k2 _ _ (rd_L1 t561 x13_2) _ _ t551 true _ ?side1 ?side2 ?side3 ?side4 A31.out).mono ?_); (case side1 => repeat (first | exact (by repeat (first | (with_reducible exact HR566_0.out) | (with_reducible refine cA_ ?_ _) | (with_reducible refine cN_ ?_ _) | (with_reducible refine cD_ ?_) | exact HR566_0.out)) | (with_reducible refine cA_ ?_ _) | (with_reducible refine cN_ ?_ _) | (with_reducible refine cD_ ?_))); (case side2 => exact HC566_0.out); (case side3 => repeat (first | exact (Kd.R_reads' HO_9.out).2.2 | (with_reducible refine cA_ ?_ _) | (with_reducible refine cN_ ?_ _) | (with_reducible refine cD_ ?_))); (case side4 => exact (Kd.R_reads' HO_9.out).2.1); rintro e w' ⟨rfl, ⟨nd, rfl⟩⟩; refine ⟨_, rfl, ?_⟩))
                      go_roundg k2
                      case measure => have := HJ5.out; have := HK2.out; omega
                      case rel => exact ⟨(wrap64 (x13_2 + 1)), (by first | rfl | (simp; done) | (simp [*]; done)), H', ⟨by have := HJ5.out; have := HK2.out; omega⟩, ⟨by (with_reducible repeat (first | apply nA_ | apply nN_ | apply nD_)); exact HO_8.out⟩, ⟨by (with_reducible repeat (first | apply rA_ | apply rN_ | apply rD_)); exact HO_9.out⟩, ⟨by (with_reducible repeat (first | apply vA_ | apply vN_ | apply vD_)); exact HO_10.out⟩, ⟨by (with_reducible repeat (first | apply nA_ | apply nN_ | apply nD_)); exact HO_12.out⟩, ⟨by repeat (first | (with_reducible first | exact HB.out | apply bA_ | apply bN_ | apply bD_) | exact HB.out)⟩⟩
                    · replace c32 := Bool.eq_false_iff.mpr c32
                      subst c32
                      have H1 : (some false) = some r := by rw [if_neg (show ¬ (false = true) by decide)] at H; exact H
                      clear H
                      have H := H1
                      clear H1
                      obtain rfl := Option.some.inj H
                      obtain ⟨Ao34, co34, eo34⟩ := Kd.N_slice HO_12.out
                      subst eo34
                      have p566 : 0 ≤ (x13_2 : Int) := of_decide_eq_true (by first | (with_reducible assumption) | assumption)
                      have q566 : x13_2 < (t561.length : Int) := of_decide_eq_true (by first | (with_reducible assumption) | assumption)
                      obtain ⟨ad566, A566_0, c566_0, e566, hx566_0, hl566_0, hi566_0⟩ := at_L1 (Kd.N_reads' HO_12.out).2.2 x13_2 p566 q566
                      cases e566
                      obtain ⟨ce566, hce566, hMe566, hcc566⟩ := Kd.N_get HO_12.out [] x13_2 p566 (by first | exact q566 | exact of_decide_eq_true (by first | (with_reducible assumption) | assumption) | (have e_ := (Kd.N_reads' HO_12.out).1; omega))
                      obtain ⟨ua566_0, uc566_0, rfl, ul566_0, ge566_0⟩ := Kd.FK_slice_open hMe566
                      have hv566_0 := hcc566 0 _ rfl
                      rw [Nat.add_zero, show ((Kd.slice 9 Kd.string)).sz = 1 from rfl, Nat.mul_one] at hv566_0
                      replace hv566_0 := Option.some.inj (hv566_0.symm.trans hx566_0)
                      injection hv566_0 with hva_ hvn_ hvc_
                      rw [hva_] at ge566_0
                      rw [hvc_] at ul566_0
                      have HL566_0 := Aside0.mk (show Kd.V Kd.string 9 _ w.heap.size _ _ (rd_L1 t561 x13_2) from Kd.V_mk ul566_0 ge566_0)
                      clear hva_ hvn_ hvc_ ge566_0 ul566_0
                      clear hcc566 hce566
                      have HR566_0 := Aside0.mk hi566_0
                      have HC566_0 := Aside0.mk hl566_0
                      clear hi566_0 hl566_0
                      replace p566 := eq_true p566
                      replace q566 := eq_true q566
                      go_wp2_with (first | ((with_reducible refine gate_callee (f := 19) rfl ?_); refine goesL_ (some 66) rfl rfl Try.func19 (by kernel_rfl) rfl #[.slice A566_0 (rd_L1 t561 x13_2).length c566_0, .slice Ao23 t551.length co23] rfl (by (try simp only [List.map_toArray, List.map_cons, List.map_nil]); first | done | rfl | (simp only [List.length_drop, List.length_take]; rfl)) ?_; (with_reducible refine (diff_Front.calls k2 _ _ (rd_L1 t561 x13_2) _ _ t551 false _ ?side1 ?side2 ?side3 ?side4 A31.out).mono ?_); (case side1 => repeat (first | exact (by repeat (first | (with_reducible exact HR566_0.out) | (with_reducible refine cA_ ?_ _) | (with_reducible refine cN_ ?_ _) | (with_reducible refine cD_ ?_) | exact HR566_0.out)) | (with_reducible refine cA_ ?_ _) | (with_reducible refine cN_ ?_ _) | (with_reducible refine cD_ ?_))); (case side2 => exact HC566_0.out); (case side3 => repeat (first | exact (Kd.R_reads' HO_9.out).2.2 | (with_reducible refine cA_ ?_ _) | (with_reducible refine cN_ ?_ _) | (with_reducible refine cD_ ?_))); (case side4 => exact (Kd.R_reads' HO_9.out).2.1); rintro e w' ⟨rfl, ⟨nd, rfl⟩⟩; refine ⟨_, rfl, ?_⟩))
                      go_ret
                      exact ⟨by first | rfl | (simp [errW_none, errW_some] <;> rfl) | (simp [*, errW_none, errW_some] <;> rfl), by repeat (first | (with_reducible first | exact HB.out | apply bA_ | apply bN_ | apply bD_) | exact HB.out)⟩
                  · rw [if_neg c30] at H
                    exact absurd H (by simp)
                · rw [if_neg c29] at H
                  have c29b0 : decide (x13_2 < (t561.length : Int)) = false := decide_eq_false c29
                  clear c29
                  replace H := Option.bind_eq_some_iff.mp H
                  obtain ⟨t568, A350, H⟩ := H
                  replace H : (if (t561.length : Int) = (t568.length : Int) then ((cadenceref2_Same.f k2 t554 t548).bind fun t571 => (some (((t561.length : Int) == 0) == t571))) else (some false)) = some r := H
                  have A35 := Aside0.mk A350
                  clear A350
                  by_cases c36 : (t561.length : Int) = (t568.length : Int)
                  · rw [if_pos c36] at H
                    have c36b0 : ((t561.length : Int) == (t568.length : Int)) = true := beq_iff_eq.mpr c36
                    have c36b1 : ((t561.length : Int) != (t568.length : Int)) = false := bne_eq_false_iff_eq.mpr c36
                    have c36b2 : (t561.length == t568.length) = true := by first | simpa using c36 | (simp at c36 ⊢; omega)
                    clear c36
                    replace H := Option.bind_eq_some_iff.mp H
                    obtain ⟨t571, A370, H⟩ := H
                    replace H : (some (((t561.length : Int) == 0) == t571)) = some r := H
                    have A37 := Aside0.mk A370
                    clear A370
                    obtain rfl := Option.some.inj H
                    obtain ⟨Ao38, co38, eo38⟩ := Kd.N_slice HO_12.out
                    subst eo38
                    obtain ⟨Ao39, co39, eo39⟩ := Kd.V_slice HO_10.out
                    subst eo39
                    go_wp2_with (first | ((with_reducible refine gate_callee (f := 11) rfl ?_); refine goesL_ (some 72) rfl rfl Try.func11 (by kernel_rfl) rfl #[.slice Ao39 t554.length co39, .slice Ao25 t548.length co25] rfl (by (try simp only [List.map_toArray, List.map_cons, List.map_nil]); first | done | rfl | (simp only [List.length_drop, List.length_take]; rfl)) ?_; (with_reducible refine (diff_Paths.calls k2 (fun k_ => (some k_ ≠ (.slice Ao25 t548.length co25 : Value).ownBlock ∧ (some k_ ≠ (.slice Ao23 t551.length co23 : Value).ownBlock ∧ some k_ ≠ (.slice Ao38 t561.length co38 : Value).ownBlock))) _ _ t554 (fun k_ => (some k_ ≠ (.slice Ao23 t551.length co23 : Value).ownBlock ∧ some k_ ≠ (.slice Ao38 t561.length co38 : Value).ownBlock)) _ _ t548 t568 _ ?side1 ?side2 A35.out).mono ?_); (case side1 => exact HO_10.out); (case side2 => exact Kd.N_V (HO_8.out)); rintro e w40 ⟨v569, rfl, ho0, hb⟩; refine ⟨_, rfl, ?_⟩; have n0_ := Aside0.mk (Kd.N_elder' (by (with_reducible repeat (first | apply nA_ | apply nN_ | apply nD_)); exact HO_8.out) (Kd.N_base ho0) hb); have n1_ := Aside0.mk (Kd.R_below (by (with_reducible repeat (first | apply rA_ | apply rN_ | apply rD_)); exact HO_9.out) hb); have n2_ := Aside0.mk (Kd.V_elder' (by (with_reducible repeat (first | apply vA_ | apply vN_ | apply vD_)); exact HO_10.out) (Kd.N_base ho0) hb); have n3_ := Aside0.mk (Kd.N_elder' (by (with_reducible repeat (first | apply nA_ | apply nN_ | apply nD_)); exact HO_12.out) (Kd.N_base ho0) hb); have n4_ := Aside0.mk (Kd.N_lower (Kd.N_mono (ok' := fun k_ => some k_ ≠ (.slice Ao23 t551.length co23 : Value).ownBlock ∧ some k_ ≠ (.slice Ao38 t561.length co38 : Value).ownBlock) ho0 (fun k_ hk_ => ⟨Or.elim hk_ (fun hs_ => Or.elim hs_ (fun hs_ => hs_.2.1) (fun hs_ => hs_.1)) (fun hn_ => (Kd.fresh' (Kd.R_lt (by (with_reducible repeat (first | apply rA_ | apply rN_ | apply rD_)); exact HO_9.out)) k_ hn_)), Or.elim hk_ (fun hs_ => Or.elim hs_ (fun hs_ => hs_.2.2) (fun hs_ => hs_.2)) (fun hn_ => (Kd.fresh' (Kd.N_lt (by (with_reducible repeat (first | apply nA_ | apply nN_ | apply nD_)); exact HO_12.out)) k_ hn_))⟩)) (below_size (by repeat (first | (with_reducible first | exact HB.out | apply bA_ | apply bN_ | apply bD_) | exact HB.out)))); have n5_ := Aside0.mk (below_step (by repeat (first | (with_reducible first | exact HB.out | apply bA_ | apply bN_ | apply bD_) | exact HB.out)) hb); clear HO_8; clear HO_9; clear HO_10; clear HO_12; clear HB; have HO_8 := n0_; have HO_9 := n1_; have HO_10 := n2_; have HO_12 := n3_; have HO570 := n4_; have HB := n5_; clear n0_ n1_ n2_ n3_ n4_ n5_; (try clear hb); (try clear hb2); (try clear hk); (try clear hi); (try clear ho0); obtain ⟨Ao41, co41, eo41⟩ := Kd.N_slice HO570.out; subst eo41) | (go_at_call 17; (with_reducible refine (cadenceref2_Same.calls k2 _ _ t554 _ _ t548 t571 _ ?side1 ?side2 ?side3 ?side4 A37.out).mono ?_); (case side1 => repeat (first | exact (Kd.V_reads' HO_10.out).2.2 | (with_reducible refine cA_ ?_ _) | (with_reducible refine cN_ ?_ _) | (with_reducible refine cD_ ?_))); (case side2 => exact (Kd.V_reads' HO_10.out).2.1); (case side3 => repeat (first | exact (Kd.N_reads' HO_8.out).2.2 | (with_reducible refine cA_ ?_ _) | (with_reducible refine cN_ ?_ _) | (with_reducible refine cD_ ?_))); (case side4 => exact (Kd.N_reads' HO_8.out).2.1); rintro e w42 ⟨rfl, hb⟩; have n0_ := Aside0.mk (Kd.N_below (by (with_reducible repeat (first | apply nA_ | apply nN_ | apply nD_)); exact HO_8.out) hb); have n1_ := Aside0.mk (Kd.R_below (by (with_reducible repeat (first | apply rA_ | apply rN_ | apply rD_)); exact HO_9.out) hb); have n2_ := Aside0.mk (Kd.V_below (by (with_reducible repeat (first | apply vA_ | apply vN_ | apply vD_)); exact HO_10.out) hb); have n3_ := Aside0.mk (Kd.N_below (by (with_reducible repeat (first | apply nA_ | apply nN_ | apply nD_)); exact HO_12.out) hb); have n4_ := Aside0.mk (Kd.N_below (by (with_reducible repeat (first | apply nA_ | apply nN_ | apply nD_)); exact HO570.out) hb); have n5_ := Aside0.mk (below_step (by repeat (first | (with_reducible first | exact HB.out | apply bA_ | apply bN_ | apply bD_) | exact HB.out)) hb); clear HO_8; clear HO_9; clear HO_10; clear HO_12; clear HO570; clear HB; have HO_8 := n0_; have HO_9 := n1_; have HO_10 := n2_; have HO_12 := n3_; have HO570 := n4_; have HB := n5_; clear n0_ n1_ n2_ n3_ n4_ n5_; (try clear hb); (try clear hb2); (try clear hk); (try clear hi)))
                    go_ret
                    exact ⟨by first | rfl | (simp [errW_none, errW_some] <;> rfl) | (simp [*, errW_none, errW_some] <;> rfl), by repeat (first | (with_reducible first | exact HB.out | apply bA_ | apply bN_ | apply bD_) | exact HB.out)⟩
                  · rw [if_neg c36] at H
                    have c36b0 : ((t561.length : Int) == (t568.length : Int)) = false := beq_eq_false_iff_ne.mpr c36
                    have c36b1 : ((t561.length : Int) != (t568.length : Int)) = true := bne_iff_ne.mpr c36
                    have c36b2 : (t561.length == t568.length) = false := by first | simpa using c36 | (simp at c36 ⊢; omega)
                    obtain rfl := Option.some.inj H
                    obtain ⟨Ao43, co43, eo43⟩ := Kd.N_slice HO_12.out
                    subst eo43
                    obtain ⟨Ao44, co44, eo44⟩ := Kd.V_slice HO_10.out
                    subst eo44
                    go_wp2_with (first | ((with_reducible refine gate_callee (f := 11) rfl ?_); refine goesL_ (some 72) rfl rfl Try.func11 (by kernel_rfl) rfl #[.slice Ao44 t554.length co44, .slice Ao25 t548.length co25] rfl (by (try simp only [List.map_toArray, List.map_cons, List.map_nil]); first | done | rfl | (simp only [List.length_drop, List.length_take]; rfl)) ?_; (with_reducible refine (diff_Paths.calls k2 (fun k_ => (some k_ ≠ (.slice Ao25 t548.length co25 : Value).ownBlock ∧ (some k_ ≠ (.slice Ao23 t551.length co23 : Value).ownBlock ∧ some k_ ≠ (.slice Ao43 t561.length co43 : Value).ownBlock))) _ _ t554 (fun k_ => (some k_ ≠ (.slice Ao23 t551.length co23 : Value).ownBlock ∧ some k_ ≠ (.slice Ao43 t561.length co43 : Value).ownBlock)) _ _ t548 t568 _ ?side1 ?side2 A35.out).mono ?_); (case side1 => exact HO_10.out); (case side2 => exact Kd.N_V (HO_8.out)); rintro e w45 ⟨v569, rfl, ho0, hb⟩; refine ⟨_, rfl, ?_⟩; have n0_ := Aside0.mk (Kd.N_elder' (by (with_reducible repeat (first | apply nA_ | apply nN_ | apply nD_)); exact HO_8.out) (Kd.N_base ho0) hb); have n1_ := Aside0.mk (Kd.R_below (by (with_reducible repeat (first | apply rA_ | apply rN_ | apply rD_)); exact HO_9.out) hb); have n2_ := Aside0.mk (Kd.V_elder' (by (with_reducible repeat (first | apply vA_ | apply vN_ | apply vD_)); exact HO_10.out) (Kd.N_base ho0) hb); have n3_ := Aside0.mk (Kd.N_elder' (by (with_reducible repeat (first | apply nA_ | apply nN_ | apply nD_)); exact HO_12.out) (Kd.N_base ho0) hb); have n4_ := Aside0.mk (Kd.N_lower (Kd.N_mono (ok' := fun k_ => some k_ ≠ (.slice Ao23 t551.length co23 : Value).ownBlock ∧ some k_ ≠ (.slice Ao43 t561.length co43 : Value).ownBlock) ho0 (fun k_ hk_ => ⟨Or.elim hk_ (fun hs_ => Or.elim hs_ (fun hs_ => hs_.2.1) (fun hs_ => hs_.1)) (fun hn_ => (Kd.fresh' (Kd.R_lt (by (with_reducible repeat (first | apply rA_ | apply rN_ | apply rD_)); exact HO_9.out)) k_ hn_)), Or.elim hk_ (fun hs_ => Or.elim hs_ (fun hs_ => hs_.2.2) (fun hs_ => hs_.2)) (fun hn_ => (Kd.fresh' (Kd.N_lt (by (with_reducible repeat (first | apply nA_ | apply nN_ | apply nD_)); exact HO_12.out)) k_ hn_))⟩)) (below_size (by repeat (first | (with_reducible first | exact HB.out | apply bA_ | apply bN_ | apply bD_) | exact HB.out)))); have n5_ := Aside0.mk (below_step (by repeat (first | (with_reducible first | exact HB.out | apply bA_ | apply bN_ | apply bD_) | exact HB.out)) hb); clear HO_8; clear HO_9; clear HO_10; clear HO_12; clear HB; have HO_8 := n0_; have HO_9 := n1_; have HO_10 := n2_; have HO_12 := n3_; have HO570 := n4_; have HB := n5_; clear n0_ n1_ n2_ n3_ n4_ n5_; (try clear hb); (try clear hb2); (try clear hk); (try clear hi); (try clear ho0); obtain ⟨Ao46, co46, eo46⟩ := Kd.N_slice HO570.out; subst eo46))
                    go_ret
                    exact ⟨by first | rfl | (simp [errW_none, errW_some] <;> rfl) | (simp [*, errW_none, errW_some] <;> rfl), by repeat (first | (with_reducible first | exact HB.out | apply bA_ | apply bN_ | apply bD_) | exact HB.out)⟩
          · replace c18 := Bool.eq_false_iff.mpr c18
            subst c18
            have H1 : (if (t561.length : Int) = 1 then (if 0 < (t561.length : Int) then ((diff_Front.f kj5 t551 (rd_L1 t561 0)).bind fun t565 => (some t565)) else (none)) else (some false)) = some r := by rw [if_neg (show ¬ (false = true) by decide)] at H; exact H
            clear H
            have H := H1
            clear H1
            by_cases c47 : (t561.length : Int) = 1
            · rw [if_pos c47] at H
              have c47b0 : ((t561.length : Int) == 1) = true := beq_iff_eq.mpr c47
              have c47b1 : ((t561.length : Int) != 1) = false := bne_eq_false_iff_eq.mpr c47
              clear c47
              by_cases c48 : 0 < (t561.length : Int)
              · rw [if_pos c48] at H
                have c48b0 : decide (0 < (t561.length : Int)) = true := decide_eq_true c48
                have c48b1 : decide (0 < t561.length) = true := decide_eq_true (by omega)
                clear c48
                replace H := Option.bind_eq_some_iff.mp H
                obtain ⟨t565, A490, H⟩ := H
                replace H : (some t565) = some r := H
                have A49 := Aside0.mk A490
                clear A490
                obtain rfl := Option.some.inj H
                go_wp2_with (first | ((with_reducible refine gate_callee (f := 18) rfl ?_); refine goesL_ (some 25) rfl rfl Try.func18 (by kernel_rfl) rfl #[.slice A0 l0.length c0, .int .i64 6, .int .i64 4] rfl (by (try simp only [List.map_toArray, List.map_cons, List.map_nil]); first | done | rfl | (simp only [List.length_drop, List.length_take]; rfl)) ?_; (with_reducible refine (cadencelaw2_Make.calls kj5 _ _ l0 6 4 t545 _ ?side1 ?side2 A12.out).mono ?_); (case side1 => repeat (first | exact (Kd.C_below HR0.out HB.out) | (with_reducible refine cA_ ?_ _) | (with_reducible refine cN_ ?_ _) | (with_reducible refine cD_ ?_))); (case side2 => exact HC0.out); rintro e w50 ⟨v546, rfl, ho0, hb⟩; refine ⟨_, rfl, ?_⟩; have n0_ := Aside0.mk (Kd.N_lower (Kd.N_mono (ok' := fun k_ => True) ho0 (fun k_ hk_ => trivial)) (below_size (by repeat (first | (with_reducible first | exact HB.out | apply bA_ | apply bN_ | apply bD_) | exact HB.out)))); have n1_ := Aside0.mk (below_step (by repeat (first | (with_reducible first | exact HB.out | apply bA_ | apply bN_ | apply bD_) | exact HB.out)) hb); clear HB; have HO547 := n0_; have HB := n1_; clear n0_ n1_; (try clear hb); (try clear hb2); (try clear hk); (try clear hi); (try clear ho0)) | ((with_reducible refine gate_callee (f := 18) rfl ?_); refine goesL_ (some 27) rfl rfl Try.func18 (by kernel_rfl) rfl #[.slice A1 l1.length c1, .int .i64 6, .int .i64 4] rfl (by (try simp only [List.map_toArray, List.map_cons, List.map_nil]); first | done | rfl | (simp only [List.length_drop, List.length_take]; rfl)) ?_; (with_reducible refine (cadencelaw2_Make.calls kj5 _ _ l1 6 4 t548 _ ?side1 ?side2 A13.out).mono ?_); (case side1 => repeat (first | exact (Kd.C_below HR1.out HB.out) | (with_reducible refine cA_ ?_ _) | (with_reducible refine cN_ ?_ _) | (with_reducible refine cD_ ?_))); (case side2 => exact HC1.out); rintro e w51 ⟨v549, rfl, ho0, hb⟩; refine ⟨_, rfl, ?_⟩; have n0_ := Aside0.mk (Kd.N_elder' (by (with_reducible repeat (first | apply nA_ | apply nN_ | apply nD_)); exact HO547.out) (Kd.N_base ho0) hb); have n1_ := Aside0.mk (Kd.N_lower (Kd.N_mono (ok' := fun k_ => some k_ ≠ (v546 : Value).ownBlock) ho0 (fun k_ hk_ => (Kd.fresh' (Kd.N_lt (by (with_reducible repeat (first | apply nA_ | apply nN_ | apply nD_)); exact HO547.out)) k_ hk_))) (below_size (by repeat (first | (with_reducible first | exact HB.out | apply bA_ | apply bN_ | apply bD_) | exact HB.out)))); have n2_ := Aside0.mk (below_step (by repeat (first | (with_reducible first | exact HB.out | apply bA_ | apply bN_ | apply bD_) | exact HB.out)) hb); clear HO547; clear HB; have HO547 := n0_; have HO550 := n1_; have HB := n2_; clear n0_ n1_ n2_; (try clear hb); (try clear hb2); (try clear hk); (try clear hi); (try clear ho0); obtain ⟨Ao52, co52, eo52⟩ := Kd.N_slice HO547.out; subst eo52) | ((with_reducible refine gate_callee (f := 22) rfl ?_); refine goesL_ (some 30) rfl rfl Try.func22 (by kernel_rfl) rfl #[.slice Ao52 t545.length co52, .slice A2 l2.length c2] rfl (by (try simp only [List.map_toArray, List.map_cons, List.map_nil]); first | done | rfl | (simp only [List.length_drop, List.length_take]; rfl)) ?_; (with_reducible refine (cadencelaw2_Path.calls kj5 (fun k_ => (True ∧ some k_ ≠ (v549 : Value).ownBlock)) _ _ t545 _ _ l2 t551 _ ?side1 ?side2 ?side3 A14.out).mono ?_); (case side1 => exact Kd.N_V (HO547.out)); (case side2 => repeat (first | exact (Kd.C_below HR2.out HB.out) | (with_reducible refine cA_ ?_ _) | (with_reducible refine cN_ ?_ _) | (with_reducible refine cD_ ?_))); (case side3 => exact HC2.out); rintro e w53 ⟨v552, rfl, ho0, hb⟩; refine ⟨_, rfl, ?_⟩; have n0_ := Aside0.mk (Kd.N_elder' (by (with_reducible repeat (first | apply nA_ | apply nN_ | apply nD_)); exact HO547.out) (Kd.R_base ho0) hb); have n1_ := Aside0.mk (Kd.N_elder' (by (with_reducible repeat (first | apply nA_ | apply nN_ | apply nD_)); exact HO550.out) (Kd.R_base ho0) hb); have n2_ := Aside0.mk (Kd.R_lower (Kd.R_mono (ok' := fun k_ => True) ho0 (fun _ hk_ => trivial)) (below_size (by repeat (first | (with_reducible first | exact HB.out | apply bA_ | apply bN_ | apply bD_) | exact HB.out)))); have n3_ := Aside0.mk (below_step (by repeat (first | (with_reducible first | exact HB.out | apply bA_ | apply bN_ | apply bD_) | exact HB.out)) hb); clear HO547; clear HO550; clear HB; have HO547 := n0_; have HO550 := n1_; have HO553 := n2_; have HB := n3_; clear n0_ n1_ n2_ n3_; (try clear hb); (try clear hb2); (try clear hk); (try clear hi); (try clear ho0); obtain ⟨Ao54, co54, eo54⟩ := Kd.R_slice HO553.out; subst eo54) | ((with_reducible refine gate_callee (f := 14) rfl ?_); refine goesL_ (some 34) rfl rfl Try.func14 (by kernel_rfl) rfl #[.slice Ao52 t545.length co52, .slice Ao54 t551.length co54] rfl (by (try simp only [List.map_toArray, List.map_cons, List.map_nil]); first | done | rfl | (simp only [List.length_drop, List.length_take]; rfl)) ?_; (with_reducible refine (cadenceref2_Get.calls kj5 (fun k_ => ((True ∧ some k_ ≠ (v549 : Value).ownBlock) ∧ some k_ ≠ (.slice Ao54 t551.length co54 : Value).ownBlock)) _ _ t545 _ _ t551 t554 false _ ?side1 ?side2 ?side3 A15.out).mono ?_); (case side1 => exact Kd.N_V (HO547.out)); (case side2 => repeat (first | exact (Kd.R_reads' HO553.out).2.2 | (with_reducible refine cA_ ?_ _) | (with_reducible refine cN_ ?_ _) | (with_reducible refine cD_ ?_))); (case side3 => exact (Kd.R_reads' HO553.out).2.1); rintro e w55 ⟨v555, rfl, ho0, hb⟩; refine ⟨_, rfl, ?_⟩; have n0_ := Aside0.mk (Kd.N_below (by (with_reducible repeat (first | apply nA_ | apply nN_ | apply nD_)); exact HO547.out) hb); have n1_ := Aside0.mk (Kd.N_below (by (with_reducible repeat (first | apply nA_ | apply nN_ | apply nD_)); exact HO550.out) hb); have n2_ := Aside0.mk (Kd.R_below (by (with_reducible repeat (first | apply rA_ | apply rN_ | apply rD_)); exact HO553.out) hb); have n3_ := Aside0.mk (Kd.V_lower (Kd.V_mono (ok' := fun k_ => some k_ ≠ (v549 : Value).ownBlock ∧ some k_ ≠ (.slice Ao54 t551.length co54 : Value).ownBlock) ho0 (fun k_ hk_ => ⟨Or.elim hk_ (fun hs_ => hs_.1.2) (fun hn_ => (Kd.fresh' (Kd.N_lt (by (with_reducible repeat (first | apply nA_ | apply nN_ | apply nD_)); exact HO550.out)) k_ hn_)), Or.elim hk_ (fun hs_ => hs_.2) (fun hn_ => (Kd.fresh' (Kd.R_lt (by (with_reducible repeat (first | apply rA_ | apply rN_ | apply rD_)); exact HO553.out)) k_ hn_))⟩)) (below_size (by repeat (first | (with_reducible first | exact HB.out | apply bA_ | apply bN_ | apply bD_) | exact HB.out)))); have n4_ := Aside0.mk (below_step (by repeat (first | (with_reducible first | exact HB.out | apply bA_ | apply bN_ | apply bD_) | exact HB.out)) hb); clear HO547; clear HO550; clear HO553; clear HB; have HO547 := n0_; have HO550 := n1_; have HO553 := n2_; have HO556 := n3_; have HB := n4_; clear n0_ n1_ n2_ n3_ n4_; (try clear hb); (try clear hb2); (try clear hk); (try clear hi); (try clear ho0); obtain ⟨Ao56, co56, eo56⟩ := Kd.N_slice HO550.out; subst eo56) | ((with_reducible refine gate_callee (f := 15) rfl ?_); refine goesL_ (some 41) rfl rfl Try.func15 (by kernel_rfl) rfl #[.slice Ao52 t545.length co52, .slice Ao54 t551.length co54, .slice Ao56 t548.length co56] rfl (by (try simp only [List.map_toArray, List.map_cons, List.map_nil]); first | done | rfl | (simp only [List.length_drop, List.length_take]; rfl)) ?_; (with_reducible refine (cadenceref2_Put.calls kj5 (fun k_ => ((True ∧ some k_ ≠ (.slice Ao56 t548.length co56 : Value).ownBlock) ∧ some k_ ≠ (.slice Ao54 t551.length co54 : Value).ownBlock)) _ _ t545 _ _ t551 (fun k_ => (some k_ ≠ (.slice Ao52 t545.length co52 : Value).ownBlock ∧ some k_ ≠ (.slice Ao54 t551.length co54 : Value).ownBlock)) _ _ t548 t558 _ ?side1 ?side2 ?side3 ?side4 A16.out).mono ?_); (case side1 => exact Kd.N_V (HO547.out)); (case side2 => repeat (first | exact (Kd.R_reads' HO553.out).2.2 | (with_reducible refine cA_ ?_ _) | (with_reducible refine cN_ ?_ _) | (with_reducible refine cD_ ?_))); (case side3 => exact (Kd.R_reads' HO553.out).2.1); (case side4 => exact Kd.N_V (HO550.out)); rintro e w57 ⟨v559, rfl, ho0, hb⟩; refine ⟨_, rfl, ?_⟩; have n0_ := Aside0.mk (Kd.N_below (by (with_reducible repeat (first | apply nA_ | apply nN_ | apply nD_)); exact HO547.out) hb); have n1_ := Aside0.mk (Kd.N_below (by (with_reducible repeat (first | apply nA_ | apply nN_ | apply nD_)); exact HO550.out) hb); have n2_ := Aside0.mk (Kd.R_below (by (with_reducible repeat (first | apply rA_ | apply rN_ | apply rD_)); exact HO553.out) hb); have n3_ := Aside0.mk (Kd.V_below (by (with_reducible repeat (first | apply vA_ | apply vN_ | apply vD_)); exact HO556.out) hb); have n4_ := Aside0.mk (Kd.V_lower (Kd.V_mono (ok' := fun k_ => some k_ ≠ (.slice Ao54 t551.length co54 : Value).ownBlock) ho0 (fun k_ hk_ => Or.elim hk_ (fun hs_ => Or.elim hs_ (fun hs_ => hs_.2) (fun hs_ => hs_.2)) (fun hn_ => (Kd.fresh' (Kd.R_lt (by (with_reducible repeat (first | apply rA_ | apply rN_ | apply rD_)); exact HO553.out)) k_ hn_)))) (below_size (by repeat (first | (with_reducible first | exact HB.out | apply bA_ | apply bN_ | apply bD_) | exact HB.out)))); have n5_ := Aside0.mk (below_step (by repeat (first | (with_reducible first | exact HB.out | apply bA_ | apply bN_ | apply bD_) | exact HB.out)) hb); clear HO547; clear HO550; clear HO553; clear HO556; clear HB; have HO547 := n0_; have HO550 := n1_; have HO553 := n2_; have HO556 := n3_; have HO560 := n4_; have HB := n5_; clear n0_ n1_ n2_ n3_ n4_ n5_; (try clear hb); (try clear hb2); (try clear hk); (try clear hi); (try clear ho0); obtain ⟨Ao58, co58, eo58⟩ := Kd.V_slice HO560.out; subst eo58) | ((with_reducible refine gate_callee (f := 11) rfl ?_); refine goesL_ (some 42) rfl rfl Try.func11 (by kernel_rfl) rfl #[.slice Ao52 t545.length co52, .slice Ao58 t558.length co58] rfl (by (try simp only [List.map_toArray, List.map_cons, List.map_nil]); first | done | rfl | (simp only [List.length_drop, List.length_take]; rfl)) ?_; (with_reducible refine (diff_Paths.calls kj5 (fun k_ => ((True ∧ some k_ ≠ (.slice Ao56 t548.length co56 : Value).ownBlock) ∧ some k_ ≠ (.slice Ao54 t551.length co54 : Value).ownBlock)) _ _ t545 (fun k_ => some k_ ≠ (.slice Ao54 t551.length co54 : Value).ownBlock) _ _ t558 t561 _ ?side1 ?side2 A17.out).mono ?_); (case side1 => exact Kd.N_V (HO547.out)); (case side2 => exact HO560.out); rintro e w59 ⟨v562, rfl, ho0, hb⟩; refine ⟨_, rfl, ?_⟩; have n0_ := Aside0.mk (Kd.N_elder' (by (with_reducible repeat (first | apply nA_ | apply nN_ | apply nD_)); exact HO547.out) (Kd.N_base ho0) hb); have n1_ := Aside0.mk (Kd.N_elder' (by (with_reducible repeat (first | apply nA_ | apply nN_ | apply nD_)); exact HO550.out) (Kd.N_base ho0) hb); have n2_ := Aside0.mk (Kd.R_below (by (with_reducible repeat (first | apply rA_ | apply rN_ | apply rD_)); exact HO553.out) hb); have n3_ := Aside0.mk (Kd.V_elder' (by (with_reducible repeat (first | apply vA_ | apply vN_ | apply vD_)); exact HO556.out) (Kd.N_base ho0) hb); have n4_ := Aside0.mk (Kd.V_elder' (by (with_reducible repeat (first | apply vA_ | apply vN_ | apply vD_)); exact HO560.out) (Kd.N_base ho0) hb); have n5_ := Aside0.mk (Kd.N_lower (Kd.N_mono (ok' := fun k_ => some k_ ≠ (.slice Ao54 t551.length co54 : Value).ownBlock) ho0 (fun k_ hk_ => Or.elim hk_ (fun hs_ => Or.elim hs_ (fun hs_ => hs_.2) (fun hs_ => hs_)) (fun hn_ => (Kd.fresh' (Kd.R_lt (by (with_reducible repeat (first | apply rA_ | apply rN_ | apply rD_)); exact HO553.out)) k_ hn_)))) (below_size (by repeat (first | (with_reducible first | exact HB.out | apply bA_ | apply bN_ | apply bD_) | exact HB.out)))); have n6_ := Aside0.mk (below_step (by repeat (first | (with_reducible first | exact HB.out | apply bA_ | apply bN_ | apply bD_) | exact HB.out)) hb); clear HO547; clear HO550; clear HO553; clear HO556; clear HO560; clear HB; have HO547 := n0_; have HO550 := n1_; have HO553 := n2_; have HO556 := n3_; have HO560 := n4_; have HO563 := n5_; have HB := n6_; clear n0_ n1_ n2_ n3_ n4_ n5_ n6_; (try clear hb); (try clear hb2); (try clear hk); (try clear hi); (try clear ho0); obtain ⟨Ao60, co60, eo60⟩ := Kd.N_slice HO563.out; subst eo60; have p564 : 0 ≤ (0 : Int) := (by omega); have q564 : 0 < (t561.length : Int) := of_decide_eq_true (by first | (with_reducible assumption) | assumption); obtain ⟨ad564, A564_0, c564_0, e564, hx564_0, hl564_0, hi564_0⟩ := at_L1 (Kd.N_reads' HO563.out).2.2 0 p564 q564; cases e564; obtain ⟨ce564, hce564, hMe564, hcc564⟩ := Kd.N_get HO563.out [] 0 p564 (by first | exact q564 | exact of_decide_eq_true (by first | (with_reducible assumption) | assumption) | (have e_ := (Kd.N_reads' HO563.out).1; omega)); obtain ⟨ua564_0, uc564_0, rfl, ul564_0, ge564_0⟩ := Kd.FK_slice_open hMe564; have hv564_0 := hcc564 0 _ rfl; rw [Nat.add_zero, show ((Kd.slice 9 Kd.string)).sz = 1 from rfl, Nat.mul_one] at hv564_0; replace hv564_0 := Option.some.inj (hv564_0.symm.trans hx564_0); injection hv564_0 with hva_ hvn_ hvc_; rw [hva_] at ge564_0; rw [hvc_] at ul564_0; have HL564_0 := Aside0.mk (show Kd.V Kd.string 9 _ w.heap.size _ _ (rd_L1 t561 0) from Kd.V_mk ul564_0 ge564_0); clear hva_ hvn_ hvc_ ge564_0 ul564_0; clear hcc564 hce564; have qi564 : (0 < t561.length) = True := eq_true (by omega); (try rw [show ((0 : Int)).toNat = 0 from rfl] at hx564_0); (try rw [Addr.add_zero'] at hx564_0); have HR564_0 := Aside0.mk hi564_0; have HC564_0 := Aside0.mk hl564_0; clear hi564_0 hl564_0; replace p564 := eq_true p564; replace q564 := eq_true q564) | (go_at_call 19; (with_reducible refine (diff_Front.calls kj5 _ _ t551 _ _ (rd_L1 t561 0) t565 _ ?side1 ?side2 ?side3 ?side4 A49.out).mono ?_); (case side1 => repeat (first | exact (Kd.R_reads' HO553.out).2.2 | (with_reducible refine cA_ ?_ _) | (with_reducible refine cN_ ?_ _) | (with_reducible refine cD_ ?_))); (case side2 => exact (Kd.R_reads' HO553.out).2.1); (case side3 => repeat (first | exact (by repeat (first | (with_reducible exact HR564_0.out) | (with_reducible refine cA_ ?_ _) | (with_reducible refine cN_ ?_ _) | (with_reducible refine cD_ ?_) | exact HR564_0.out)) | (with_reducible refine cA_ ?_ _) | (with_reducible refine cN_ ?_ _) | (with_reducible refine cD_ ?_))); (case side4 => exact HC564_0.out); rintro e w' ⟨rfl, ⟨nd, rfl⟩⟩))
                go_ret
                exact ⟨by first | rfl | (simp [errW_none, errW_some] <;> rfl) | (simp [*, errW_none, errW_some] <;> rfl), by repeat (first | (with_reducible first | exact HB.out | apply bA_ | apply bN_ | apply bD_) | exact HB.out)⟩
              · rw [if_neg c48] at H
                exact absurd H (by simp)
            · rw [if_neg c47] at H
              have c47b0 : ((t561.length : Int) == 1) = false := beq_eq_false_iff_ne.mpr c47
              have c47b1 : ((t561.length : Int) != 1) = true := bne_iff_ne.mpr c47
              obtain rfl := Option.some.inj H
              go_wp2_with (first | ((with_reducible refine gate_callee (f := 18) rfl ?_); refine goesL_ (some 25) rfl rfl Try.func18 (by kernel_rfl) rfl #[.slice A0 l0.length c0, .int .i64 6, .int .i64 4] rfl (by (try simp only [List.map_toArray, List.map_cons, List.map_nil]); first | done | rfl | (simp only [List.length_drop, List.length_take]; rfl)) ?_; (with_reducible refine (cadencelaw2_Make.calls kj5 _ _ l0 6 4 t545 _ ?side1 ?side2 A12.out).mono ?_); (case side1 => repeat (first | exact (Kd.C_below HR0.out HB.out) | (with_reducible refine cA_ ?_ _) | (with_reducible refine cN_ ?_ _) | (with_reducible refine cD_ ?_))); (case side2 => exact HC0.out); rintro e w61 ⟨v546, rfl, ho0, hb⟩; refine ⟨_, rfl, ?_⟩; have n0_ := Aside0.mk (Kd.N_lower (Kd.N_mono (ok' := fun k_ => True) ho0 (fun k_ hk_ => trivial)) (below_size (by repeat (first | (with_reducible first | exact HB.out | apply bA_ | apply bN_ | apply bD_) | exact HB.out)))); have n1_ := Aside0.mk (below_step (by repeat (first | (with_reducible first | exact HB.out | apply bA_ | apply bN_ | apply bD_) | exact HB.out)) hb); clear HB; have HO547 := n0_; have HB := n1_; clear n0_ n1_; (try clear hb); (try clear hb2); (try clear hk); (try clear hi); (try clear ho0)) | ((with_reducible refine gate_callee (f := 18) rfl ?_); refine goesL_ (some 27) rfl rfl Try.func18 (by kernel_rfl) rfl #[.slice A1 l1.length c1, .int .i64 6, .int .i64 4] rfl (by (try simp only [List.map_toArray, List.map_cons, List.map_nil]); first | done | rfl | (simp only [List.length_drop, List.length_take]; rfl)) ?_; (with_reducible refine (cadencelaw2_Make.calls kj5 _ _ l1 6 4 t548 _ ?side1 ?side2 A13.out).mono ?_); (case side1 => repeat (first | exact (Kd.C_below HR1.out HB.out) | (with_reducible refine cA_ ?_ _) | (with_reducible refine cN_ ?_ _) | (with_reducible refine cD_ ?_))); (case side2 => exact HC1.out); rintro e w62 ⟨v549, rfl, ho0, hb⟩; refine ⟨_, rfl, ?_⟩; have n0_ := Aside0.mk (Kd.N_elder' (by (with_reducible repeat (first | apply nA_ | apply nN_ | apply nD_)); exact HO547.out) (Kd.N_base ho0) hb); have n1_ := Aside0.mk (Kd.N_lower (Kd.N_mono (ok' := fun k_ => some k_ ≠ (v546 : Value).ownBlock) ho0 (fun k_ hk_ => (Kd.fresh' (Kd.N_lt (by (with_reducible repeat (first | apply nA_ | apply nN_ | apply nD_)); exact HO547.out)) k_ hk_))) (below_size (by repeat (first | (with_reducible first | exact HB.out | apply bA_ | apply bN_ | apply bD_) | exact HB.out)))); have n2_ := Aside0.mk (below_step (by repeat (first | (with_reducible first | exact HB.out | apply bA_ | apply bN_ | apply bD_) | exact HB.out)) hb); clear HO547; clear HB; have HO547 := n0_; have HO550 := n1_; have HB := n2_; clear n0_ n1_ n2_; (try clear hb); (try clear hb2); (try clear hk); (try clear hi); (try clear ho0); obtain ⟨Ao63, co63, eo63⟩ := Kd.N_slice HO547.out; subst eo63) | ((with_reducible refine gate_callee (f := 22) rfl ?_); refine goesL_ (some 30) rfl rfl Try.func22 (by kernel_rfl) rfl #[.slice Ao63 t545.length co63, .slice A2 l2.length c2] rfl (by (try simp only [List.map_toArray, List.map_cons, List.map_nil]); first | done | rfl | (simp only [List.length_drop, List.length_take]; rfl)) ?_; (with_reducible refine (cadencelaw2_Path.calls kj5 (fun k_ => (True ∧ some k_ ≠ (v549 : Value).ownBlock)) _ _ t545 _ _ l2 t551 _ ?side1 ?side2 ?side3 A14.out).mono ?_); (case side1 => exact Kd.N_V (HO547.out)); (case side2 => repeat (first | exact (Kd.C_below HR2.out HB.out) | (with_reducible refine cA_ ?_ _) | (with_reducible refine cN_ ?_ _) | (with_reducible refine cD_ ?_))); (case side3 => exact HC2.out); rintro e w64 ⟨v552, rfl, ho0, hb⟩; refine ⟨_, rfl, ?_⟩; have n0_ := Aside0.mk (Kd.N_elder' (by (with_reducible repeat (first | apply nA_ | apply nN_ | apply nD_)); exact HO547.out) (Kd.R_base ho0) hb); have n1_ := Aside0.mk (Kd.N_elder' (by (with_reducible repeat (first | apply nA_ | apply nN_ | apply nD_)); exact HO550.out) (Kd.R_base ho0) hb); have n2_ := Aside0.mk (Kd.R_lower (Kd.R_mono (ok' := fun k_ => True) ho0 (fun _ hk_ => trivial)) (below_size (by repeat (first | (with_reducible first | exact HB.out | apply bA_ | apply bN_ | apply bD_) | exact HB.out)))); have n3_ := Aside0.mk (below_step (by repeat (first | (with_reducible first | exact HB.out | apply bA_ | apply bN_ | apply bD_) | exact HB.out)) hb); clear HO547; clear HO550; clear HB; have HO547 := n0_; have HO550 := n1_; have HO553 := n2_; have HB := n3_; clear n0_ n1_ n2_ n3_; (try clear hb); (try clear hb2); (try clear hk); (try clear hi); (try clear ho0); obtain ⟨Ao65, co65, eo65⟩ := Kd.R_slice HO553.out; subst eo65) | ((with_reducible refine gate_callee (f := 14) rfl ?_); refine goesL_ (some 34) rfl rfl Try.func14 (by kernel_rfl) rfl #[.slice Ao63 t545.length co63, .slice Ao65 t551.length co65] rfl (by (try simp only [List.map_toArray, List.map_cons, List.map_nil]); first | done | rfl | (simp only [List.length_drop, List.length_take]; rfl)) ?_; (with_reducible refine (cadenceref2_Get.calls kj5 (fun k_ => ((True ∧ some k_ ≠ (v549 : Value).ownBlock) ∧ some k_ ≠ (.slice Ao65 t551.length co65 : Value).ownBlock)) _ _ t545 _ _ t551 t554 false _ ?side1 ?side2 ?side3 A15.out).mono ?_); (case side1 => exact Kd.N_V (HO547.out)); (case side2 => repeat (first | exact (Kd.R_reads' HO553.out).2.2 | (with_reducible refine cA_ ?_ _) | (with_reducible refine cN_ ?_ _) | (with_reducible refine cD_ ?_))); (case side3 => exact (Kd.R_reads' HO553.out).2.1); rintro e w66 ⟨v555, rfl, ho0, hb⟩; refine ⟨_, rfl, ?_⟩; have n0_ := Aside0.mk (Kd.N_below (by (with_reducible repeat (first | apply nA_ | apply nN_ | apply nD_)); exact HO547.out) hb); have n1_ := Aside0.mk (Kd.N_below (by (with_reducible repeat (first | apply nA_ | apply nN_ | apply nD_)); exact HO550.out) hb); have n2_ := Aside0.mk (Kd.R_below (by (with_reducible repeat (first | apply rA_ | apply rN_ | apply rD_)); exact HO553.out) hb); have n3_ := Aside0.mk (Kd.V_lower (Kd.V_mono (ok' := fun k_ => some k_ ≠ (v549 : Value).ownBlock ∧ some k_ ≠ (.slice Ao65 t551.length co65 : Value).ownBlock) ho0 (fun k_ hk_ => ⟨Or.elim hk_ (fun hs_ => hs_.1.2) (fun hn_ => (Kd.fresh' (Kd.N_lt (by (with_reducible repeat (first | apply nA_ | apply nN_ | apply nD_)); exact HO550.out)) k_ hn_)), Or.elim hk_ (fun hs_ => hs_.2) (fun hn_ => (Kd.fresh' (Kd.R_lt (by (with_reducible repeat (first | apply rA_ | apply rN_ | apply rD_)); exact HO553.out)) k_ hn_))⟩)) (below_size (by repeat (first | (with_reducible first | exact HB.out | apply bA_ | apply bN_ | apply bD_) | exact HB.out)))); have n4_ := Aside0.mk (below_step (by repeat (first | (with_reducible first | exact HB.out | apply bA_ | apply bN_ | apply bD_) | exact HB.out)) hb); clear HO547; clear HO550; clear HO553; clear HB; have HO547 := n0_; have HO550 := n1_; have HO553 := n2_; have HO556 := n3_; have HB := n4_; clear n0_ n1_ n2_ n3_ n4_; (try clear hb); (try clear hb2); (try clear hk); (try clear hi); (try clear ho0); obtain ⟨Ao67, co67, eo67⟩ := Kd.N_slice HO550.out; subst eo67) | ((with_reducible refine gate_callee (f := 15) rfl ?_); refine goesL_ (some 41) rfl rfl Try.func15 (by kernel_rfl) rfl #[.slice Ao63 t545.length co63, .slice Ao65 t551.length co65, .slice Ao67 t548.length co67] rfl (by (try simp only [List.map_toArray, List.map_cons, List.map_nil]); first | done | rfl | (simp only [List.length_drop, List.length_take]; rfl)) ?_; (with_reducible refine (cadenceref2_Put.calls kj5 (fun k_ => ((True ∧ some k_ ≠ (.slice Ao67 t548.length co67 : Value).ownBlock) ∧ some k_ ≠ (.slice Ao65 t551.length co65 : Value).ownBlock)) _ _ t545 _ _ t551 (fun k_ => (some k_ ≠ (.slice Ao63 t545.length co63 : Value).ownBlock ∧ some k_ ≠ (.slice Ao65 t551.length co65 : Value).ownBlock)) _ _ t548 t558 _ ?side1 ?side2 ?side3 ?side4 A16.out).mono ?_); (case side1 => exact Kd.N_V (HO547.out)); (case side2 => repeat (first | exact (Kd.R_reads' HO553.out).2.2 | (with_reducible refine cA_ ?_ _) | (with_reducible refine cN_ ?_ _) | (with_reducible refine cD_ ?_))); (case side3 => exact (Kd.R_reads' HO553.out).2.1); (case side4 => exact Kd.N_V (HO550.out)); rintro e w68 ⟨v559, rfl, ho0, hb⟩; refine ⟨_, rfl, ?_⟩; have n0_ := Aside0.mk (Kd.N_below (by (with_reducible repeat (first | apply nA_ | apply nN_ | apply nD_)); exact HO547.out) hb); have n1_ := Aside0.mk (Kd.N_below (by (with_reducible repeat (first | apply nA_ | apply nN_ | apply nD_)); exact HO550.out) hb); have n2_ := Aside0.mk (Kd.R_below (by (with_reducible repeat (first | apply rA_ | apply rN_ | apply rD_)); exact HO553.out) hb); have n3_ := Aside0.mk (Kd.V_below (by (with_reducible repeat (first | apply vA_ | apply vN_ | apply vD_)); exact HO556.out) hb); have n4_ := Aside0.mk (Kd.V_lower (Kd.V_mono (ok' := fun k_ => some k_ ≠ (.slice Ao65 t551.length co65 : Value).ownBlock) ho0 (fun k_ hk_ => Or.elim hk_ (fun hs_ => Or.elim hs_ (fun hs_ => hs_.2) (fun hs_ => hs_.2)) (fun hn_ => (Kd.fresh' (Kd.R_lt (by (with_reducible repeat (first | apply rA_ | apply rN_ | apply rD_)); exact HO553.out)) k_ hn_)))) (below_size (by repeat (first | (with_reducible first | exact HB.out | apply bA_ | apply bN_ | apply bD_) | exact HB.out)))); have n5_ := Aside0.mk (below_step (by repeat (first | (with_reducible first | exact HB.out | apply bA_ | apply bN_ | apply bD_) | exact HB.out)) hb); clear HO547; clear HO550; clear HO553; clear HO556; clear HB; have HO547 := n0_; have HO550 := n1_; have HO553 := n2_; have HO556 := n3_; have HO560 := n4_; have HB := n5_; clear n0_ n1_ n2_ n3_ n4_ n5_; (try clear hb); (try clear hb2); (try clear hk); (try clear hi); (try clear ho0); obtain ⟨Ao69, co69, eo69⟩ := Kd.V_slice HO560.out; subst eo69) | ((with_reducible refine gate_callee (f := 11) rfl ?_); refine goesL_ (some 42) rfl rfl Try.func11 (by kernel_rfl) rfl #[.slice Ao63 t545.length co63, .slice Ao69 t558.length co69] rfl (by (try simp only [List.map_toArray, List.map_cons, List.map_nil]); first | done | rfl | (simp only [List.length_drop, List.length_take]; rfl)) ?_; (with_reducible refine (diff_Paths.calls kj5 (fun k_ => ((True ∧ some k_ ≠ (.slice Ao67 t548.length co67 : Value).ownBlock) ∧ some k_ ≠ (.slice Ao65 t551.length co65 : Value).ownBlock)) _ _ t545 (fun k_ => some k_ ≠ (.slice Ao65 t551.length co65 : Value).ownBlock) _ _ t558 t561 _ ?side1 ?side2 A17.out).mono ?_); (case side1 => exact Kd.N_V (HO547.out)); (case side2 => exact HO560.out); rintro e w70 ⟨v562, rfl, ho0, hb⟩; refine ⟨_, rfl, ?_⟩; have n0_ := Aside0.mk (Kd.N_elder' (by (with_reducible repeat (first | apply nA_ | apply nN_ | apply nD_)); exact HO547.out) (Kd.N_base ho0) hb); have n1_ := Aside0.mk (Kd.N_elder' (by (with_reducible repeat (first | apply nA_ | apply nN_ | apply nD_)); exact HO550.out) (Kd.N_base ho0) hb); have n2_ := Aside0.mk (Kd.R_below (by (with_reducible repeat (first | apply rA_ | apply rN_ | apply rD_)); exact HO553.out) hb); have n3_ := Aside0.mk (Kd.V_elder' (by (with_reducible repeat (first | apply vA_ | apply vN_ | apply vD_)); exact HO556.out) (Kd.N_base ho0) hb); have n4_ := Aside0.mk (Kd.V_elder' (by (with_reducible repeat (first | apply vA_ | apply vN_ | apply vD_)); exact HO560.out) (Kd.N_base ho0) hb); have n5_ := Aside0.mk (Kd.N_lower (Kd.N_mono (ok' := fun k_ => some k_ ≠ (.slice Ao65 t551.length co65 : Value).ownBlock) ho0 (fun k_ hk_ => Or.elim hk_ (fun hs_ => Or.elim hs_ (fun hs_ => hs_.2) (fun hs_ => hs_)) (fun hn_ => (Kd.fresh' (Kd.R_lt (by (with_reducible repeat (first | apply rA_ | apply rN_ | apply rD_)); exact HO553.out)) k_ hn_)))) (below_size (by repeat (first | (with_reducible first | exact HB.out | apply bA_ | apply bN_ | apply bD_) | exact HB.out)))); have n6_ := Aside0.mk (below_step (by repeat (first | (with_reducible first | exact HB.out | apply bA_ | apply bN_ | apply bD_) | exact HB.out)) hb); clear HO547; clear HO550; clear HO553; clear HO556; clear HO560; clear HB; have HO547 := n0_; have HO550 := n1_; have HO553 := n2_; have HO556 := n3_; have HO560 := n4_; have HO563 := n5_; have HB := n6_; clear n0_ n1_ n2_ n3_ n4_ n5_ n6_; (try clear hb); (try clear hb2); (try clear hk); (try clear hi); (try clear ho0); obtain ⟨Ao71, co71, eo71⟩ := Kd.N_slice HO563.out; subst eo71))
              go_ret
              exact ⟨by first | rfl | (simp [errW_none, errW_some] <;> rfl) | (simp [*, errW_none, errW_some] <;> rfl), by repeat (first | (with_reducible first | exact HB.out | apply bA_ | apply bN_ | apply bD_) | exact HB.out)⟩
  · replace c5 := Bool.eq_false_iff.mpr c5
    subst c5
    have H1 : (some false) = some r := by rw [if_neg (show ¬ (false = true) by decide)] at H; exact H
    clear H
    have H := H1
    clear H1
    obtain rfl := Option.some.inj H
    go_enter Try.func7, Try.ntmps7
    go_wp2_with (first | ((with_reducible refine gate_callee (f := 8) rfl ?_); refine goesL_ (some 14) rfl rfl Try.func8 (by kernel_rfl) rfl #[] rfl (by (try simp only [List.map_toArray, List.map_cons, List.map_nil]); first | done | rfl | (simp only [List.length_drop, List.length_take]; rfl)) ?_; (with_reducible refine (cadencelaw13_known.calls k  false _ A4.out).mono ?_); rintro e w72 ⟨rfl, hb⟩; refine ⟨_, rfl, ?_⟩; have n0_ := Aside0.mk (below_step (by repeat (first | (with_reducible first | exact HB.out | apply bA_ | apply bN_ | apply bD_) | exact HB.out)) hb); clear HB; have HB := n0_; clear n0_; (try clear hb); (try clear hb2); (try clear hk); (try clear hi)))
    go_ret
    exact ⟨by first | rfl | (simp [errW_none, errW_some] <;> rfl) | (simp [*, errW_none, errW_some] <;> rfl), by repeat (first | (with_reducible first | exact HB.out | apply bA_ | apply bN_ | apply bD_) | exact HB.out)⟩

end Go.Proofs.Ytbhgocpenbibgaa.PX
/- DiffOne: what its printed function comes to. -/
set_option linter.unusedVariables false
namespace Go.Proofs.Ytbhgocpenbibgaa.PX
open Go.RowKit Go.Proofs.YtbhgocpenbibgaaW.PrintWords Go.Proofs.YtbhgocpenbibgaaW.PrintLast Go.Proofs.YtbhgocpenbibgaaW.PrintMore Go.Proofs.Ytbhgocpenbibgaa
theorem within2 (a : Int) {n : Int} (h0 : 0 < n) (h1 : n ≤ 1000000) : ∃ r, 0 ≤ r ∧ r < n ∧ cadencelaw2_within.f a n = some r := by
  obtain ⟨r, r0, r1, h⟩ := tmod_in a h0 h1
  refine ⟨r, r0, r1, ?_⟩
  unfold cadencelaw2_within.f
  rw [if_neg (by omega), ← h]
  split <;> rfl
/-- A path by numbers: some path of six names at the most. -/
theorem path_ev {W D : Nat} (hW : W ≤ 1000) (t : Tr) (ns : List Int) (ht : Ok W D t) : ∃ p : List ByteArray, p.length ≤ 6 ∧ Ev (fun k => cadencelaw2_Path.f k t ns) p := by
  have stop : ∀ (t : Tr) (p : List ByteArray) (i : Nat), ¬ (i < ns.length ∧ i < 6) → Ev (fun k => cadencelaw2_Path.l0 k t ns p (i : Int)) p := by
    intro t p i hi
    have h1 : Ev (fun k => cadencelaw2_Path.j1 k t ns p (i : Int) false) p := by
      refine Ev.step (f := fun _ => some p) (fun k => ?_) (Ev.now _)
      simp only [cadencelaw2_Path.j1]
      rw [if_neg Bool.false_ne_true]
    refine Ev.step (f := fun k => cadencelaw2_Path.j1 k t ns p (i : Int) false) (fun k => ?_) h1
    simp only [cadencelaw2_Path.l0]
    by_cases c1 : (i : Int) < (ns.length : Int)
    · rw [if_pos c1, decide_eq_false (by omega)]
    · rw [if_neg c1]
  have loop : ∀ (m i : Nat) (t : Tr) (p : List ByteArray), i + m = 6 → p.length = i → Ok W D t → ∃ q : List ByteArray, q.length ≤ 6 ∧ Ev (fun k => cadencelaw2_Path.l0 k t ns p (i : Int)) q := by
    intro m
    induction m with
    | zero => intro i t p hi hp _; exact ⟨p, by omega, stop t p i (by omega)⟩
    | succ m ih =>
      intro i t p hi hp ht
      by_cases hc : i < ns.length
      · have htl := ht.length
        obtain ⟨r, r0, r1, hr⟩ := within2 (rd ns (i : Int)) (n := (t.length : Int) + 1) (by omega) (by omega)
        have go : ∀ q, Ev (fun k => cadencelaw2_Path.j1 k t ns p (i : Int) true) q → Ev (fun k => cadencelaw2_Path.l0 k t ns p (i : Int)) q := by
          intro q hq
          refine Ev.step (f := fun k => cadencelaw2_Path.j1 k t ns p (i : Int) true) (fun k => ?_) hq
          simp only [cadencelaw2_Path.l0]
          rw [if_pos (by omega), decide_eq_true (by omega)]
        by_cases hrl : r = (t.length : Int)
        · obtain ⟨s, s0, s1, hs⟩ := within2 (wrap64 (Int.tdiv (rd ns (i : Int)) 7)) (n := 3) (by omega) (by omega)
          generalize hx : rdOf ByteArray.empty [(⟨#[]⟩ : ByteArray), (⟨#[97]⟩ : ByteArray), (⟨#[122, 122]⟩ : ByteArray)] s = x
          have hkd := kid_ev t x (by omega)
          have h0 : Ok W D ((kid t x).getD []) := by
            cases e : kid t x with
            | none => exact Ok.nil _ _
            | some y => exact ht.kidle e
          obtain ⟨q, hq, hqe⟩ := ih (i + 1) ((kid t x).getD []) (p ++ [x]) (by omega) (by simp; omega) h0
          refine ⟨q, hq, go q (Ev.step (f := fun k => (cadenceref2_Kid.f k t x).bind fun u => cadencelaw2_Path.l0 k u.1 ns (p ++ [x]) ((i + 1 : Nat) : Int)) (fun k => ?_) (Ev.bind hkd hqe))⟩
          simp only [cadencelaw2_Path.j1]
          have hpx : rdOf ByteArray.empty (p ++ [x]) (i : Int) = x := by
            rw [rdOf_nat (by simp; omega)]
            simp [List.getElem_append_right, hp]
          rw [if_pos trivial, if_pos (by omega), if_pos (by omega), wrap_id (by omega) (by omega), hr, Option.bind_some, if_pos hrl, Option.bind_some, hs, Option.bind_some, if_pos s0, if_pos (by simp; omega), if_pos (by omega), Option.bind_some, hx, if_pos (by simp; omega), hpx, wrap_succ (by omega)]
        · have hrn : r.toNat < t.length := by omega
          have hrr : rd_T45 t r = t[r.toNat] := by
            have := rdT_nat hrn
            rwa [Int.toNat_of_nonneg r0] at this
          obtain ⟨q, hq, hqe⟩ := ih (i + 1) t[r.toNat].f1 (p ++ [t[r.toNat].f0]) (by omega) (by simp; omega) (by
            cases D with
            | zero => rw [show t = [] from ht] at hrn; simp at hrn
            | succ D => exact (ht.2.2 _ (List.getElem_mem hrn)).succ)
          refine ⟨q, hq, go q (Ev.step (f := fun k => cadencelaw2_Path.l0 k t[r.toNat].f1 ns (p ++ [t[r.toNat].f0]) ((i + 1 : Nat) : Int)) (fun k => ?_) hqe)⟩
          simp only [cadencelaw2_Path.j1]
          rw [if_pos trivial, if_pos (by omega), if_pos (by omega), wrap_id (by omega) (by omega), hr, Option.bind_some, if_neg hrl, if_pos r0, if_pos (by omega), if_pos (by omega), hrr, wrap_succ (by omega)]
      · exact ⟨p, by omega, stop t p i (by omega)⟩
  exact loop 6 0 t [] (by omega) rfl ht
theorem diffOne_ev (l m : List Raw) (ns : List Int) (hl : RawOk l) (hm : RawOk m) : Ev (fun k => cadencelaw13_DiffOne.f k l m ns) true := by
  obtain ⟨b0, f0, e0⟩ := few_ev hl
  obtain ⟨b1, f1, e1⟩ := few_ev hm
  have out : Ev (fun k => cadencelaw13_DiffOne.j0 k l m ns true) true := by
    refine Ev.step (f := fun _ => some true) (fun k => ?_) (Ev.now _)
    simp only [cadencelaw13_DiffOne.j0]
    rw [if_pos trivial]
  refine Ev.congr (f := fun k => (cadencelaw13_known.f k).bind fun t => if t = true then (cadencelaw2_Few.f k l).bind fun u => (if u = true then (cadencelaw2_Few.f k m).bind fun v => cadencelaw13_DiffOne.j0 k l m ns (!v) else cadencelaw13_DiffOne.j0 k l m ns true) else some false) (fun k => by unfold cadencelaw13_DiffOne.f; rfl) (Ev.bind known_ev (Ev.congr (fun k => if_pos rfl) (Ev.bind e0 ?_)))
  cases b0 with
  | false => exact Ev.congr (fun k => if_neg Bool.false_ne_true) out
  | true =>
    refine Ev.congr (fun k => if_pos rfl) (Ev.bind e1 ?_)
    cases b1 with
    | false => exact out
    | true =>
      clear out f0 f1 e0 e1
      obtain ⟨t, ht, et⟩ := make_ev hl 6 4 (by omega) (by omega)
      obtain ⟨x, hx, ex⟩ := make_ev hm 6 4 (by omega) (by omega)
      obtain ⟨p, hpl, ep⟩ := path_ev (by omega) t ns ht
      have ht10 : Ok 6 10 t := ht.le (by omega)
      have hx10 : Ok 6 (10 - p.length) x := hx.le (by omega)
      have hu := putM_ok ht10 (by omega) hx10
      have eg := refGet_ev (by omega) p ht (by omega)
      have eu := put_ev (by omega) x p ht (by omega)
      have ed := paths_ev (W := 7) (by omega) (by omega) (by omega) (by decide) (ht10.wide (by omega)) hu
      obtain ⟨a1, a2⟩ := paths_put p (by omega) ht10 hx10
      have hdeep := fun q h => pathsM_deep t (putM t p x) (p := q) (d := 10) h
      have hlen : (pathsM 10 t (putM t p x)).length ≤ 289254654976 := pathsM_length (W := 7) (by omega) t _ (ht10.wide (by omega)) hu
      by_cases hg : (getR t p).2 = true
      · have hold := getR_ok ht10 (x := (getR t p).1) (p := p) (by rw [← hg])
        have e2 := paths_ev (W := 6) (by omega) (by omega) (show 10 - p.length ≤ 1000 by omega) (Nat.le_trans (Nat.pow_le_pow_right (by omega) (show 10 - p.length ≤ 10 by omega)) (by decide)) hold.2 hx10
        have es := same_ev (by omega) hold.2 hx10
        have hnil : (getR t p).1 = x ↔ pathsM (10 - p.length) (getR t p).1 x = [] := by
          constructor
          · intro h
            rw [← h]
            exact pathsM_self hold.2
          · intro h
            have := mends_all hold.2 hx10
            rwa [h] at this
        have hD := a1 hg
        generalize pathsM 10 t (putM t p x) = P at ed hD hdeep hlen
        generalize pathsM (10 - p.length) (getR t p).1 x = Q at e2 hD hnil
        have hPl : P.length = Q.length := by rw [hD, List.length_map]
        have hin : ∀ q ∈ P, p <+: q := by
          intro q hq
          rw [hD] at hq
          obtain ⟨s, _, rfl⟩ := List.mem_map.1 hq
          exact List.prefix_append _ _
        have loop : ∀ (d i : Nat), i + d = P.length → Ev (fun k => cadencelaw13_DiffOne.l0 k x p (getR t p).1 P (i : Int)) true := by
          intro d
          induction d with
          | zero =>
            intro i hi
            obtain ⟨K1, h1⟩ := e2
            obtain ⟨K2, h2⟩ := es
            refine ⟨K1 + K2 + 1, fun k hk => ?_⟩
            obtain ⟨k, rfl⟩ : ∃ m, k = m + 1 := ⟨k - 1, by omega⟩
            replace h1 : diff_Paths.f k (getR t p).1 x = some Q := h1 k (by omega)
            replace h2 : cadenceref2_Same.f k (getR t p).1 x = some (decide ((getR t p).1 = x)) := h2 k (by omega)
            show cadencelaw13_DiffOne.l0 (k + 1) x p (getR t p).1 P (i : Int) = some true
            simp only [cadencelaw13_DiffOne.l0]
            rw [if_neg (by omega), h1, Option.bind_some, if_pos (by omega), h2, Option.bind_some]
            congr 1
            rw [beq_iff_eq, Bool.eq_iff_iff, beq_iff_eq, decide_eq_true_eq, hnil, ← List.length_eq_zero_iff]
            omega
          | succ d ih =>
            intro i hi
            have hil : i < P.length := by omega
            have hf := front_ev P[i] p (by omega)
            rw [decide_eq_true (hin _ (List.getElem_mem hil))] at hf
            refine Ev.step (f := fun k => (diff_Front.f k P[i] p).bind fun u => if u = true then cadencelaw13_DiffOne.l0 k x p (getR t p).1 P ((i + 1 : Nat) : Int) else some false) (fun k => ?_) (Ev.bind hf (Ev.congr (fun k => if_pos rfl) (ih (i + 1) (by omega))))
            simp only [cadencelaw13_DiffOne.l0]
            rw [if_pos (by omega), if_pos (by omega), rdL_s hil, wrap_succ (by omega)]
        obtain ⟨K1, h1⟩ := et
        obtain ⟨K2, h2⟩ := ex
        obtain ⟨K3, h3⟩ := ep
        obtain ⟨K4, h4⟩ := eg
        obtain ⟨K5, h5⟩ := eu
        obtain ⟨K6, h6⟩ := ed
        obtain ⟨K7, h7⟩ := loop P.length 0 (by omega)
        refine ⟨K1 + K2 + K3 + K4 + K5 + K6 + K7 + 1, fun k hk => ?_⟩
        obtain ⟨k, rfl⟩ : ∃ m, k = m + 1 := ⟨k - 1, by omega⟩
        replace h1 : cadencelaw2_Make.f k l 6 4 = some t := h1 k (by omega)
        replace h2 : cadencelaw2_Make.f k m 6 4 = some x := h2 k (by omega)
        replace h3 : cadencelaw2_Path.f k t ns = some p := h3 k (by omega)
        replace h4 : cadenceref2_Get.f k t p = some (getR t p) := h4 k (by omega)
        replace h5 : cadenceref2_Put.f k t p x = some (putM t p x) := h5 k (by omega)
        replace h6 : diff_Paths.f k t (putM t p x) = some P := h6 k (by omega)
        replace h7 : cadencelaw13_DiffOne.l0 k x p (getR t p).1 P 0 = some true := h7 k (by omega)
        show cadencelaw13_DiffOne.j0 (k + 1) l m ns false = some true
        simp only [cadencelaw13_DiffOne.j0]
        rw [if_neg Bool.false_ne_true, h1, Option.bind_some, h2, Option.bind_some, h3, Option.bind_some, h4, Option.bind_some, h5, Option.bind_some, h6, Option.bind_some, if_pos hg, h7]
      · obtain ⟨q, hq, hD⟩ := a2 (by simpa using hg)
        rw [hD] at ed hdeep
        have hf := front_ev p q (by have := hdeep q List.mem_cons_self; omega)
        rw [decide_eq_true hq] at hf
        obtain ⟨K1, h1⟩ := et
        obtain ⟨K2, h2⟩ := ex
        obtain ⟨K3, h3⟩ := ep
        obtain ⟨K4, h4⟩ := eg
        obtain ⟨K5, h5⟩ := eu
        obtain ⟨K6, h6⟩ := ed
        obtain ⟨K7, h7⟩ := hf
        refine ⟨K1 + K2 + K3 + K4 + K5 + K6 + K7 + 1, fun k hk => ?_⟩
        obtain ⟨k, rfl⟩ : ∃ m, k = m + 1 := ⟨k - 1, by omega⟩
        replace h1 : cadencelaw2_Make.f k l 6 4 = some t := h1 k (by omega)
        replace h2 : cadencelaw2_Make.f k m 6 4 = some x := h2 k (by omega)
        replace h3 : cadencelaw2_Path.f k t ns = some p := h3 k (by omega)
        replace h4 : cadenceref2_Get.f k t p = some (getR t p) := h4 k (by omega)
        replace h5 : cadenceref2_Put.f k t p x = some (putM t p x) := h5 k (by omega)
        replace h6 : diff_Paths.f k t (putM t p x) = some [q] := h6 k (by omega)
        replace h7 : diff_Front.f k p q = some true := h7 k (by omega)
        show cadencelaw13_DiffOne.j0 (k + 1) l m ns false = some true
        have hr : rd_L1 [q] 0 = q := rfl
        simp only [cadencelaw13_DiffOne.j0]
        rw [if_neg Bool.false_ne_true, h1, Option.bind_some, h2, Option.bind_some, h3, Option.bind_some, h4, Option.bind_some, h5, Option.bind_some, h6, Option.bind_some, if_neg hg, if_pos (by simp), if_pos (by simp), hr, h7, Option.bind_some]
end Go.Proofs.Ytbhgocpenbibgaa.PX
/- Rows of whole numbers, as they come in. -/
set_option linter.unusedVariables false
set_option linter.unusedSimpArgs false
namespace Go.Proofs.Ytbhgocpenbibgaa.PX
open Go.RowKit Go.Proofs.YtbhgocpenbibgaaW.PrintWords Go.Proofs.YtbhgocpenbibgaaW.PrintLast Go.Proofs.YtbhgocpenbibgaaW.PrintMore Go.ChangeShapes Go.WideShapes Go.ChangeAt Go.Deep
section
variable {H : Type} {enc : TypeId × Value → H} {w : World}
theorem open_intK {v : Value} {d : DataW H} {p : List MemPlace} {ts : List TypeId} {ds : List (DataW H)} {j : Nat} (hv : ∃ A len cap, v = .slice A len cap) (h : DataW.Trod enc Try.prog w 0 (fun _ => true) true 41 v d p)
    (hsz : (DataW.weightsEach Try.prog ts ds).all (· ≤ reachBytes) = true) (ht : ts[j]? = some 41) (hd : ds[j]? = some d) :
    ∃ (A : Option Addr) (cap : Nat) (l : List Int), v = .slice A l.length cap ∧ l.length ≤ cap ∧ Kd.C (Kd.int .i64) w A l.length l ∧ l.length ≤ cap := by
  obtain ⟨A, len, cap, rfl⟩ := hv
  obtain ⟨fuel, hf⟩ := h
  rcases open_ints Try.underlying41 Try.underlying3 (by kernel_rfl) hf with ⟨hcs, _⟩ | ⟨x, l, c, zs, hcs, _, hl, hm, hz, _, hcell, hwz⟩
  · simp only [Value.cells, List.cons.injEq, and_true, Value.slice.injEq] at hcs
    obtain ⟨rfl, rfl, rfl⟩ := hcs
    exact ⟨none, 0, [], rfl, Nat.le_refl _, Kd.C_nil _ _, Nat.le_refl _⟩
  · simp only [Value.cells, List.cons.injEq, and_true, Value.slice.injEq] at hcs
    obtain ⟨rfl, rfl, rfl⟩ := hcs
    simp only [if_true] at hz
    have htl : (zs.take len).length = len := by rw [List.length_take]; omega
    refine ⟨some x, cap, zs.take len, by rw [htl], by rw [htl]; exact hl, Kd.C_of_reads (d := (0 : Int)) (h1 := fun _ => rfl) ⟨rfl, by rw [htl]; unfold maxLen at hm; omega, fun hp => ⟨x, rfl, fun j hj => ?_⟩⟩, by rw [htl]; exact hl⟩
    rw [htl] at hj
    rw [hcell j (by omega)]
    simp [List.getD_eq_getElem?_getD, List.getElem?_take, hj]
end
end Go.Proofs.Ytbhgocpenbibgaa.PX
set_option linter.unusedVariables false
set_option linter.unusedSimpArgs false
namespace Go.Proofs.Ytbhgocpenbibgaa.diffOne
open Go.ChangeShapes Go.WideShapes Go.ChangeAt Go.RowKit
open Go.ChangeMaps (open_string shut_string)
open Go.Proofs.Ytbhgocpenbibgaa.PX
theorem own : ownKnob Try.prog.godebug = none := by kernel_rfl
theorem laidOut : laidOutB Try.prog = true := by kernel_rfl
set_option maxRecDepth 100000 in
theorem lifted (os : Os) (started : os.Started) (H : Type) (enc : TypeId × Value → H) :
    ReturnsInHanded {} Try.checked os 7 .any (Rows.diffOneSpec.pre6 enc Try.prog Try.f7 Rows.diffOneRow.domain false) (Rows.diffOneSpec.post enc Try.prog Try.f7 false true false false) := by
  refine returnsInHanded_of_change_sized (C := Try.checked) own started (by kernel_rfl) Try.func7
    (ChangeSpec.witness6 (enc := enc) (C := Try.checked) false ⟨#[], #[.slice none 0 0, .slice none 0 0, .slice none 0 0], []⟩ 8 (by kernel_rfl) (by kernel_rfl) (by kernel_rfl) (by kernel_rfl)) ?_
  intro W base args ds gs before hval0 hW hcnd hsz0 _
  have hsz : (DataW.weightsEach Try.prog (Try.f7.params.toList ++ Rows.diffOneSpec.plain.varTypes Try.prog) (ds ++ gs)).all (· ≤ reachBytes) = true := hsz0
  have hval : ∀ (j : Nat) t v, Try.f7.params[j]? = some t → args[j]? = some v → Value.okWide Try.prog W .any base t v := hval0
  have hW' := hW
  obtain ⟨p, q, hA0, hV, rfl, hfz, hnd⟩ := hW
  have hA : DataW.TrodAll enc Try.prog W 0 (fun _ => true) true Try.f7.params.toList args.toList ds p := hA0
  rw [Try.params7] at hA hval hsz
  obtain ⟨v0, vs0, d0, ds0, p0, q0, hargs, rfl, rfl, h0, r0⟩ := trodAll_cons hA
  obtain ⟨v1, vs1, d1, ds1, p1, q1, rfl, rfl, rfl, h1, r1⟩ := trodAll_cons r0
  obtain ⟨v2, vs2, d2, ds2, p2, q2, rfl, rfl, rfl, h2, r2⟩ := trodAll_cons r1
  obtain ⟨rfl, rfl, rfl⟩ := trodAll_nil r2
  obtain rfl : args = #[v0, v1, v2] := by cases args; simp_all
  obtain ⟨rfl, rfl⟩ := trodVars_none hV
  have lt0 : ∀ x ∈ p0, x.block < W.heap.size := by obtain ⟨m, hm⟩ := h0; exact DataW.trod_lt m _ _ _ hm
  have k0 := h0
  have lt1 : ∀ x ∈ p1, x.block < W.heap.size := by obtain ⟨m, hm⟩ := h1; exact DataW.trod_lt m _ _ _ hm
  have k1 := h1
  have lt2 : ∀ x ∈ p2, x.block < W.heap.size := by obtain ⟨m, hm⟩ := h2; exact DataW.trod_lt m _ _ _ hm
  have k2 := h2
  obtain ⟨a0, c0, x0, rfl, L0, C0, R0⟩ := open_raw (okWide_slice Try.underlying22 (hval 0 22 v0 rfl rfl)) h0 hsz (j := 0) rfl rfl
  obtain ⟨a1, c1, x1, rfl, L1, C1, R1⟩ := open_raw (okWide_slice Try.underlying22 (hval 1 22 v1 rfl rfl)) h1 hsz (j := 1) rfl rfl
  obtain ⟨a2, c2, x2, rfl, L2, C2, R2⟩ := open_intK (okWide_slice Try.underlying41 (hval 2 41 v2 rfl rfl)) h2 hsz (j := 2) rfl rfl
  clear hA0 hval0 hsz0 hsz
  obtain ⟨k, hk⟩ := (diffOne_ev x0 x1 x2 R0 R1).rounds
  refine (cadencelaw13_DiffOne.calls k a0 c0 x0 a1 c1 x1 a2 c2 x2 true W C0 L0 C1 L1 C2 L2 hk).mono fun e W' ⟨he, bel⟩ => ?_
  subst he
  exact ⟨_, rfl, _, _, _, [], _, [], hW', trodAll_mk1 (shut_bool Try.underlying4 _), (trodAll_cons_mk (Below.trod laidOut (by kernel_rfl) (of_decide_eq_true (by kernel_rfl)) k0 bel lt0) (trodAll_cons_mk (Below.trod laidOut (by kernel_rfl) (of_decide_eq_true (by kernel_rfl)) k1 bel lt1) (trodAll_cons_mk (Below.trod laidOut (by kernel_rfl) (of_decide_eq_true (by kernel_rfl)) k2 bel lt2) trodAll_mk0))), rfl, bel.frame _, fun h => by cases h⟩

theorem over : Rows.diffOneRow.holds Try.pinned (OpenSpec.ofChange Rows.diffOneSpec) :=
  OpenClaim.holds_of_wide 7 Try.f7 rfl rfl rfl rfl rfl rfl rfl ⟨rfl, rfl, rfl, rfl, rfl⟩ rfl rfl rfl rfl rfl (by kernel_rfl) Try.func7 (by kernel_rfl)
    (of_decide_eq_true (by kernel_rfl)) (by unfold Func.isWrapper; first | (rw [if_pos (by decide +kernel)]; kernel_rfl) | (rw [if_neg (by decide +kernel)]; exact ⟨rfl, rfl⟩))
    (fun os started H enc _ => lifted os started H enc)

theorem proved : Rows.DiffOneSaid := over
#print axioms proved
end Go.Proofs.Ytbhgocpenbibgaa.diffOne
