/-
  The statement of 'DiffMends': the Go function returns true at every input, and its arguments read as before.
  Conditions: none.
-/
import Derived.Test.YtbhgocpenbibgaaMDiffMends1
import Derived.Test.YtbhgocpenbibgaaMDiffMends2
import Derived.Test.YtbhgocpenbibgaaMDiffMends3
import Derived.Test.YtbhgocpenbibgaaRows
import Derived.WalkKit
import Derived.ProofKit
import Derived.OpenShut
import Derived.ShutString
import Derived.ChangeOld
import Derived.Below
import Derived.SizedLaws
-- written by wip/tools/hybrid.py (over the kit's print.py, with functions proved by hand beside it) for this claim
namespace Go.Proofs.Ytbhgocpenbibgaa.PX
open Go.RowKit Go.Proofs.YtbhgocpenbibgaaW.PrintWords Go.Proofs.YtbhgocpenbibgaaW.PrintLast Go.Proofs.YtbhgocpenbibgaaW.PrintMore
attribute [local go_sem] max2_int min2_int max_two min_two max_three min_three max_four min_four   -- for this text's walks alone
set_option linter.unusedVariables false
set_option linter.unusedSimpArgs false

/-! ### cadencelaw13_DiffMends: function 4 -/
mutual
def cadencelaw13_DiffMends.j0 : Nat → List (S49) → List (S49) → Bool → Option (Bool)
  | 0, _, _, _ => none
  | k + 1, x0, x1, x20 => if x20 = true then (some true) else ((cadencelaw4_Small.f k x0 8 5).bind fun t456 => ((cadencelaw4_Small.f k x1 8 5).bind fun t459 => ((diff_Paths.f k t456 t459).bind fun t462 => (cadencelaw13_DiffMends.l0 k t456 t459 t462 0))))
def cadencelaw13_DiffMends.l0 : Nat → List (S45) → List (S45) → List (List ByteArray) → Int → Option (Bool)
  | 0, _, _, _, _ => none
  | k + 1, x5, x6, x7, x8 => if x8 < (x7.length : Int) then (if 0 ≤ x8 then ((cadenceref2_Get.f k x6 (rd_L1 x7 x8)).bind fun bt467 => (if bt467.2 = true then ((cadenceref2_Put.f k x5 (rd_L1 x7 x8) bt467.1).bind fun t472 => (cadencelaw13_DiffMends.l0 k t472 x6 x7 (wrap64 (x8 + 1)))) else ((cadenceref2_Drop.f k x5 (rd_L1 x7 x8)).bind fun t476 => (cadencelaw13_DiffMends.l0 k t476 x6 x7 (wrap64 (x8 + 1)))))) else (none)) else ((cadenceref2_Same.f k x5 x6).bind fun t465 => (some t465))
end
def cadencelaw13_DiffMends.f (k : Nat) (l0 : List (S49)) (l1 : List (S49)) : Option (Bool) := (cadencelaw13_known.f k).bind fun t453 => (if t453 = true then ((cadencelaw2_Few.f k l0).bind fun t454 => (if t454 = true then ((cadencelaw2_Few.f k l1).bind fun t455 => (cadencelaw13_DiffMends.j0 k l0 l1 (!t455))) else (cadencelaw13_DiffMends.j0 k l0 l1 true))) else (some false))
theorem cadencelaw13_DiffMends.mono_l : ∀ k, (∀ y0 y1 y2, LeO (cadencelaw13_DiffMends.j0 k y0 y1 y2) (cadencelaw13_DiffMends.j0 (k + 1) y0 y1 y2)) ∧ (∀ y0 y1 y2 y3, LeO (cadencelaw13_DiffMends.l0 k y0 y1 y2 y3) (cadencelaw13_DiffMends.l0 (k + 1) y0 y1 y2 y3))
  | 0 => ⟨fun _ _ _ r h => by simp [cadencelaw13_DiffMends.j0] at h, fun _ _ _ _ r h => by simp [cadencelaw13_DiffMends.l0] at h⟩
  | k + 1 => by
    obtain ⟨ih0, ih1⟩ := cadencelaw13_DiffMends.mono_l k
    refine ⟨?_, ?_⟩
    · intro y0 y1 y2
      unfold cadencelaw13_DiffMends.j0
      repeat' first
      | (with_reducible exact ih0 _ _ _)
      | (with_reducible exact ih1 _ _ _ _)
      | (with_reducible exact cadencelaw13_known.mono _)
      | (with_reducible exact cadencelaw2_Few.mono _ _)
      | (with_reducible exact cadencelaw4_Small.mono _ _ _ _)
      | (with_reducible exact cadenceref2_Drop.mono _ _ _)
      | (with_reducible exact cadenceref2_Get.mono _ _ _)
      | (with_reducible exact cadenceref2_Put.mono _ _ _ _)
      | (with_reducible exact cadenceref2_Same.mono _ _ _)
      | (with_reducible exact diff_Paths.mono _ _ _)
      | (with_reducible exact LeO.refl _)
      | (with_reducible exact LeO.none _)
      | (with_reducible refine LeO.ite ?_ ?_)
      | (with_reducible refine LeO.bind ?_ (fun _ => ?_))
      | exact ih0 _ _ _
      | exact ih1 _ _ _ _
      | exact cadencelaw13_known.mono _
      | exact cadencelaw2_Few.mono _ _
      | exact cadencelaw4_Small.mono _ _ _ _
      | exact cadenceref2_Drop.mono _ _ _
      | exact cadenceref2_Get.mono _ _ _
      | exact cadenceref2_Put.mono _ _ _ _
      | exact cadenceref2_Same.mono _ _ _
      | exact diff_Paths.mono _ _ _
      | exact LeO.none _
      | refine LeO.ite ?_ ?_
      | refine LeO.bind ?_ (fun _ => ?_)
    · intro y0 y1 y2 y3
      unfold cadencelaw13_DiffMends.l0
      repeat' first
      | (with_reducible exact ih0 _ _ _)
      | (with_reducible exact ih1 _ _ _ _)
      | (with_reducible exact cadencelaw13_known.mono _)
      | (with_reducible exact cadencelaw2_Few.mono _ _)
      | (with_reducible exact cadencelaw4_Small.mono _ _ _ _)
      | (with_reducible exact cadenceref2_Drop.mono _ _ _)
      | (with_reducible exact cadenceref2_Get.mono _ _ _)
      | (with_reducible exact cadenceref2_Put.mono _ _ _ _)
      | (with_reducible exact cadenceref2_Same.mono _ _ _)
      | (with_reducible exact diff_Paths.mono _ _ _)
      | (with_reducible exact LeO.refl _)
      | (with_reducible exact LeO.none _)
      | (with_reducible refine LeO.ite ?_ ?_)
      | (with_reducible refine LeO.bind ?_ (fun _ => ?_))
      | exact ih0 _ _ _
      | exact ih1 _ _ _ _
      | exact cadencelaw13_known.mono _
      | exact cadencelaw2_Few.mono _ _
      | exact cadencelaw4_Small.mono _ _ _ _
      | exact cadenceref2_Drop.mono _ _ _
      | exact cadenceref2_Get.mono _ _ _
      | exact cadenceref2_Put.mono _ _ _ _
      | exact cadenceref2_Same.mono _ _ _
      | exact diff_Paths.mono _ _ _
      | exact LeO.none _
      | refine LeO.ite ?_ ?_
      | refine LeO.bind ?_ (fun _ => ?_)
theorem cadencelaw13_DiffMends.mono : ∀ a0 a1 k, LeO (cadencelaw13_DiffMends.f k a0 a1) (cadencelaw13_DiffMends.f (k + 1) a0 a1) := by
  intro a0 a1 k
  obtain ⟨ih0, ih1⟩ := cadencelaw13_DiffMends.mono_l k
  unfold cadencelaw13_DiffMends.f
  repeat' first
      | (with_reducible exact ih0 _ _ _)
      | (with_reducible exact ih1 _ _ _ _)
      | (with_reducible exact cadencelaw13_known.mono _)
      | (with_reducible exact cadencelaw2_Few.mono _ _)
      | (with_reducible exact cadencelaw4_Small.mono _ _ _ _)
      | (with_reducible exact cadenceref2_Drop.mono _ _ _)
      | (with_reducible exact cadenceref2_Get.mono _ _ _)
      | (with_reducible exact cadenceref2_Put.mono _ _ _ _)
      | (with_reducible exact cadenceref2_Same.mono _ _ _)
      | (with_reducible exact diff_Paths.mono _ _ _)
      | (with_reducible exact LeO.refl _)
      | (with_reducible exact LeO.none _)
      | (with_reducible refine LeO.ite ?_ ?_)
      | (with_reducible refine LeO.bind ?_ (fun _ => ?_))
      | exact ih0 _ _ _
      | exact ih1 _ _ _ _
      | exact cadencelaw13_known.mono _
      | exact cadencelaw2_Few.mono _ _
      | exact cadencelaw4_Small.mono _ _ _ _
      | exact cadenceref2_Drop.mono _ _ _
      | exact cadenceref2_Get.mono _ _ _
      | exact cadenceref2_Put.mono _ _ _ _
      | exact cadenceref2_Same.mono _ _ _
      | exact diff_Paths.mono _ _ _
      | exact LeO.none _
      | refine LeO.ite ?_ ?_
      | refine LeO.bind ?_ (fun _ => ?_)
set_option maxHeartbeats 8000000 in
set_option maxRecDepth 100000 in
theorem cadencelaw13_DiffMends.calls (k : Nat) (A0 : Option Addr) (c0 : Nat) (l0 : List (S49)) (A1 : Option Addr) (c1 : Nat) (l1 : List (S49)) (r : Bool) (w : World) (hr0 : Kd.C k49 w A0 l0.length l0) (hc0 : l0.length ≤ c0) (hr1 : Kd.C k49 w A1 l1.length l1) (hc1 : l1.length ≤ c1) (h : cadencelaw13_DiffMends.f k l0 l1 = some r) :
    Calls Try.prog 4 #[.slice A0 l0.length c0, .slice A1 l1.length c1] w fun e w' => e = .returned (.bool r) ∧ Below w.heap.size w w' := by
  have HR0 := Aside0.mk hr0
  have HC0 := Aside0.mk hc0
  clear hr0 hc0
  have HR1 := Aside0.mk hr1
  have HC1 := Aside0.mk hc1
  clear hr1 hc1
  have HB := Aside0.mk (Below.refl w.heap.size w)
  have H : ((cadencelaw13_known.f k).bind fun t453 => (if t453 = true then ((cadencelaw2_Few.f k l0).bind fun t454 => (if t454 = true then ((cadencelaw2_Few.f k l1).bind fun t455 => (cadencelaw13_DiffMends.j0 k l0 l1 (!t455))) else (cadencelaw13_DiffMends.j0 k l0 l1 true))) else (some false))) = some r := h
  clear h
  replace H := Option.bind_eq_some_iff.mp H
  obtain ⟨t453, A30, H⟩ := H
  replace H : (if t453 = true then ((cadencelaw2_Few.f k l0).bind fun t454 => (if t454 = true then ((cadencelaw2_Few.f k l1).bind fun t455 => (cadencelaw13_DiffMends.j0 k l0 l1 (!t455))) else (cadencelaw13_DiffMends.j0 k l0 l1 true))) else (some false)) = some r := H
  have A3 := Aside0.mk A30
  clear A30
  by_cases c4 : t453 = true
  · subst c4
    have H1 : ((cadencelaw2_Few.f k l0).bind fun t454 => (if t454 = true then ((cadencelaw2_Few.f k l1).bind fun t455 => (cadencelaw13_DiffMends.j0 k l0 l1 (!t455))) else (cadencelaw13_DiffMends.j0 k l0 l1 true))) = some r := by rw [if_pos rfl] at H; exact H
    clear H
    have H := H1
    clear H1
    have HC5 := Aside0.mk H
    clear H
    go_enter Try.func4, Try.ntmps4
    go_upto_region 3 with (first | ((with_reducible refine gate_callee (f := 8) rfl ?_); refine goesL_ (some 11) rfl rfl Try.func8 (by kernel_rfl) rfl #[] rfl (by (try simp only [List.map_toArray, List.map_cons, List.map_nil]); first | done | rfl | (simp only [List.length_drop, List.length_take]; rfl)) ?_; (with_reducible refine (cadencelaw13_known.calls k  true _ A3.out).mono ?_); rintro e w6 ⟨rfl, hb⟩; refine ⟨_, rfl, ?_⟩; have n0_ := Aside0.mk (below_step (by repeat (first | (with_reducible first | exact HB.out | apply bA_ | apply bN_ | apply bD_) | exact HB.out)) hb); clear HB; have HB := n0_; clear n0_; (try clear hb); (try clear hb2); (try clear hk); (try clear hi)))
    (try simp only [Act.put, List.setIfInBounds_toArray, List.set_cons_zero, List.set_cons_succ])
    go_cut [20] (fun v20 wc => ∃ (kq : Nat) (x20_4 : Bool), v20 = .bool x20_4 ∧ Aside0 (cadencelaw13_DiffMends.j0 kq l0 l1 x20_4 = some r) ∧ Aside0 (kq ≤ k) ∧ Aside0 (Below w.heap.size w wc))
    case first =>
      have H := HC5.out
      clear HC5
      replace H := Option.bind_eq_some_iff.mp H
      obtain ⟨t454, A70, H⟩ := H
      replace H : (if t454 = true then ((cadencelaw2_Few.f k l1).bind fun t455 => (cadencelaw13_DiffMends.j0 k l0 l1 (!t455))) else (cadencelaw13_DiffMends.j0 k l0 l1 true)) = some r := H
      have A7 := Aside0.mk A70
      clear A70
      by_cases c8 : t454 = true
      · subst c8
        have H1 : ((cadencelaw2_Few.f k l1).bind fun t455 => (cadencelaw13_DiffMends.j0 k l0 l1 (!t455))) = some r := by rw [if_pos rfl] at H; exact H
        clear H
        have H := H1
        clear H1
        replace H := Option.bind_eq_some_iff.mp H
        obtain ⟨t455, A90, H⟩ := H
        replace H : (cadencelaw13_DiffMends.j0 k l0 l1 (!t455)) = some r := H
        have A9 := Aside0.mk A90
        clear A90
        have H' := Aside0.mk H
        clear H
        go_wp2_with (first | ((with_reducible refine gate_callee (f := 9) rfl ?_); refine goesL_ (some 14) rfl rfl Try.func9 (by kernel_rfl) rfl #[.slice A0 l0.length c0] rfl (by (try simp only [List.map_toArray, List.map_cons, List.map_nil]); first | done | rfl | (simp only [List.length_drop, List.length_take]; rfl)) ?_; (with_reducible refine (cadencelaw2_Few.calls k _ _ l0 true _ ?side1 ?side2 A7.out).mono ?_); (case side1 => repeat (first | exact (Kd.C_below HR0.out HB.out) | (with_reducible refine cA_ ?_ _) | (with_reducible refine cN_ ?_ _) | (with_reducible refine cD_ ?_))); (case side2 => exact HC0.out); rintro e w' ⟨rfl, ⟨nd, rfl⟩⟩; refine ⟨_, rfl, ?_⟩) | (go_at_call 9; (with_reducible refine (cadencelaw2_Few.calls k _ _ l1 t455 _ ?side1 ?side2 A9.out).mono ?_); (case side1 => repeat (first | exact (Kd.C_below HR1.out (by repeat (first | (with_reducible first | exact HB.out | apply bA_ | apply bN_ | apply bD_) | exact HB.out))) | (with_reducible refine cA_ ?_ _) | (with_reducible refine cN_ ?_ _) | (with_reducible refine cD_ ?_))); (case side2 => exact HC1.out); rintro e w' ⟨rfl, ⟨nd, rfl⟩⟩))
        go_meet
        case rel => exact ⟨_, (!t455), (by first | rfl | (simp; done) | (simp [*]; done)), H', ⟨by first | omega | exact Nat.le_refl _⟩, ⟨by repeat (first | (with_reducible first | exact HB.out | apply bA_ | apply bN_ | apply bD_) | exact HB.out)⟩⟩
      · replace c8 := Bool.eq_false_iff.mpr c8
        subst c8
        have H1 : (cadencelaw13_DiffMends.j0 k l0 l1 true) = some r := by rw [if_neg (show ¬ (false = true) by decide)] at H; exact H
        clear H
        have H := H1
        clear H1
        have H' := Aside0.mk H
        clear H
        go_wp2_with (first | ((with_reducible refine gate_callee (f := 9) rfl ?_); refine goesL_ (some 14) rfl rfl Try.func9 (by kernel_rfl) rfl #[.slice A0 l0.length c0] rfl (by (try simp only [List.map_toArray, List.map_cons, List.map_nil]); first | done | rfl | (simp only [List.length_drop, List.length_take]; rfl)) ?_; (with_reducible refine (cadencelaw2_Few.calls k _ _ l0 false _ ?side1 ?side2 A7.out).mono ?_); (case side1 => repeat (first | exact (Kd.C_below HR0.out HB.out) | (with_reducible refine cA_ ?_ _) | (with_reducible refine cN_ ?_ _) | (with_reducible refine cD_ ?_))); (case side2 => exact HC0.out); rintro e w' ⟨rfl, ⟨nd, rfl⟩⟩; refine ⟨_, rfl, ?_⟩))
        go_meet
        case rel => exact ⟨_, (true), (by first | rfl | (simp; done) | (simp [*]; done)), H', ⟨by first | omega | exact Nat.le_refl _⟩, ⟨by repeat (first | (with_reducible first | exact HB.out | apply bA_ | apply bN_ | apply bD_) | exact HB.out)⟩⟩
    case rest =>
      clear HC5
      try clear c1
      try clear p2
      try clear c4
      try clear c8
      try clear c9
      obtain ⟨kq, x20_4, rfl, HA, HJ4, HB⟩ := hcut
      cases kq with
      | zero => exact absurd HA.out (by simp [cadencelaw13_DiffMends.j0])
      | succ kj4 =>
        have H := HA.out
        clear HA
        simp only [cadencelaw13_DiffMends.j0] at H
        by_cases c10 : x20_4 = true
        · subst c10
          have H1 : (some true) = some r := by rw [if_pos rfl] at H; exact H
          clear H
          have H := H1
          clear H1
          obtain rfl := Option.some.inj H
          go_wp2
          go_ret
          exact ⟨by first | rfl | (simp [errW_none, errW_some] <;> rfl) | (simp [*, errW_none, errW_some] <;> rfl), by repeat (first | (with_reducible first | exact HB.out | apply bA_ | apply bN_ | apply bD_) | exact HB.out)⟩
        · replace c10 := Bool.eq_false_iff.mpr c10
          subst c10
          have H1 : ((cadencelaw4_Small.f kj4 l0 8 5).bind fun t456 => ((cadencelaw4_Small.f kj4 l1 8 5).bind fun t459 => ((diff_Paths.f kj4 t456 t459).bind fun t462 => (cadencelaw13_DiffMends.l0 kj4 t456 t459 t462 0)))) = some r := by rw [if_neg (show ¬ (false = true) by decide)] at H; exact H
          clear H
          have H := H1
          clear H1
          replace H := Option.bind_eq_some_iff.mp H
          obtain ⟨t456, A110, H⟩ := H
          replace H : ((cadencelaw4_Small.f kj4 l1 8 5).bind fun t459 => ((diff_Paths.f kj4 t456 t459).bind fun t462 => (cadencelaw13_DiffMends.l0 kj4 t456 t459 t462 0))) = some r := H
          have A11 := Aside0.mk A110
          clear A110
          replace H := Option.bind_eq_some_iff.mp H
          obtain ⟨t459, A120, H⟩ := H
          replace H : ((diff_Paths.f kj4 t456 t459).bind fun t462 => (cadencelaw13_DiffMends.l0 kj4 t456 t459 t462 0)) = some r := H
          have A12 := Aside0.mk A120
          clear A120
          replace H := Option.bind_eq_some_iff.mp H
          obtain ⟨t462, A130, H⟩ := H
          replace H : (cadencelaw13_DiffMends.l0 kj4 t456 t459 t462 0) = some r := H
          have A13 := Aside0.mk A130
          clear A130
          have H' := Aside0.mk H
          clear H
          go_wp2_with (first | ((with_reducible refine gate_callee (f := 10) rfl ?_); refine goesL_ (some 22) rfl rfl Try.func10 (by kernel_rfl) rfl #[.slice A0 l0.length c0, .int .i64 8, .int .i64 5] rfl (by (try simp only [List.map_toArray, List.map_cons, List.map_nil]); first | done | rfl | (simp only [List.length_drop, List.length_take]; rfl)) ?_; (with_reducible refine (cadencelaw4_Small.calls kj4 _ _ l0 8 5 t456 _ ?side1 ?side2 A11.out).mono ?_); (case side1 => repeat (first | exact (Kd.C_below HR0.out HB.out) | (with_reducible refine cA_ ?_ _) | (with_reducible refine cN_ ?_ _) | (with_reducible refine cD_ ?_))); (case side2 => exact HC0.out); rintro e w14 ⟨v457, rfl, ho0, hb⟩; refine ⟨_, rfl, ?_⟩; have n0_ := Aside0.mk (Kd.N_lower (Kd.N_mono (ok' := fun k_ => True) ho0 (fun k_ hk_ => trivial)) (below_size (by repeat (first | (with_reducible first | exact HB.out | apply bA_ | apply bN_ | apply bD_) | exact HB.out)))); have n1_ := Aside0.mk (below_step (by repeat (first | (with_reducible first | exact HB.out | apply bA_ | apply bN_ | apply bD_) | exact HB.out)) hb); clear HB; have HO458 := n0_; have HB := n1_; clear n0_ n1_; (try clear hb); (try clear hb2); (try clear hk); (try clear hi); (try clear ho0)) | ((with_reducible refine gate_callee (f := 10) rfl ?_); refine goesL_ (some 24) rfl rfl Try.func10 (by kernel_rfl) rfl #[.slice A1 l1.length c1, .int .i64 8, .int .i64 5] rfl (by (try simp only [List.map_toArray, List.map_cons, List.map_nil]); first | done | rfl | (simp only [List.length_drop, List.length_take]; rfl)) ?_; (with_reducible refine (cadencelaw4_Small.calls kj4 _ _ l1 8 5 t459 _ ?side1 ?side2 A12.out).mono ?_); (case side1 => repeat (first | exact (Kd.C_below HR1.out HB.out) | (with_reducible refine cA_ ?_ _) | (with_reducible refine cN_ ?_ _) | (with_reducible refine cD_ ?_))); (case side2 => exact HC1.out); rintro e w15 ⟨v460, rfl, ho0, hb⟩; refine ⟨_, rfl, ?_⟩; have n0_ := Aside0.mk (Kd.N_elder' (by (with_reducible repeat (first | apply nA_ | apply nN_ | apply nD_)); exact HO458.out) (Kd.N_base ho0) hb); have n1_ := Aside0.mk (Kd.N_lower (Kd.N_mono (ok' := fun k_ => some k_ ≠ (v457 : Value).ownBlock) ho0 (fun k_ hk_ => (Kd.fresh' (Kd.N_lt (by (with_reducible repeat (first | apply nA_ | apply nN_ | apply nD_)); exact HO458.out)) k_ hk_))) (below_size (by repeat (first | (with_reducible first | exact HB.out | apply bA_ | apply bN_ | apply bD_) | exact HB.out)))); have n2_ := Aside0.mk (below_step (by repeat (first | (with_reducible first | exact HB.out | apply bA_ | apply bN_ | apply bD_) | exact HB.out)) hb); clear HO458; clear HB; have HO458 := n0_; have HO461 := n1_; have HB := n2_; clear n0_ n1_ n2_; (try clear hb); (try clear hb2); (try clear hk); (try clear hi); (try clear ho0); obtain ⟨Ao16, co16, eo16⟩ := Kd.N_slice HO458.out; subst eo16; obtain ⟨Ao17, co17, eo17⟩ := Kd.N_slice HO461.out; subst eo17) | ((with_reducible refine gate_callee (f := 11) rfl ?_); refine goesL_ (some 27) rfl rfl Try.func11 (by kernel_rfl) rfl #[.slice Ao16 t456.length co16, .slice Ao17 t459.length co17] rfl (by (try simp only [List.map_toArray, List.map_cons, List.map_nil]); first | done | rfl | (simp only [List.length_drop, List.length_take]; rfl)) ?_; (with_reducible refine (diff_Paths.calls kj4 (fun k_ => (True ∧ some k_ ≠ (.slice Ao17 t459.length co17 : Value).ownBlock)) _ _ t456 (fun k_ => some k_ ≠ (.slice Ao16 t456.length co16 : Value).ownBlock) _ _ t459 t462 _ ?side1 ?side2 A13.out).mono ?_); (case side1 => exact Kd.N_V (HO458.out)); (case side2 => exact Kd.N_V (HO461.out)); rintro e w18 ⟨v463, rfl, ho0, hb⟩; refine ⟨_, rfl, ?_⟩; have n0_ := Aside0.mk (Kd.N_elder' (by (with_reducible repeat (first | apply nA_ | apply nN_ | apply nD_)); exact HO458.out) (Kd.N_base ho0) hb); have n1_ := Aside0.mk (Kd.N_elder' (by (with_reducible repeat (first | apply nA_ | apply nN_ | apply nD_)); exact HO461.out) (Kd.N_base ho0) hb); have n2_ := Aside0.mk (Kd.N_lower (Kd.N_mono (ok' := fun k_ => True) ho0 (fun k_ hk_ => trivial)) (below_size (by repeat (first | (with_reducible first | exact HB.out | apply bA_ | apply bN_ | apply bD_) | exact HB.out)))); have n3_ := Aside0.mk (below_step (by repeat (first | (with_reducible first | exact HB.out | apply bA_ | apply bN_ | apply bD_) | exact HB.out)) hb); clear HO458; clear HO461; clear HB; have HO458 := n0_; have HO461 := n1_; have HO464 := n2_; have HB := n3_; clear n0_ n1_ n2_ n3_; (try clear hb); (try clear hb2); (try clear hk); (try clear hi); (try clear ho0)))
          go_loopg [5, 8] kj4 (fun kq v5 v8 w' => ∃ (x5_2 : List (S45)) (x8_2 : Int), v8 = .int .i64 x8_2 ∧ Aside0 (cadencelaw13_DiffMends.l0 kq x5_2 t459 t462 x8_2 = some r) ∧ Aside0 (kq ≤ kj4) ∧ Aside0 (Kd.V k45 45 w' w.heap.size (fun k_ => some k_ ≠ (v463 : Value).ownBlock) v5 x5_2) ∧ Aside0 (Kd.N k45 45 w' w.heap.size (fun k_ => some k_ ≠ (v463 : Value).ownBlock) (.slice Ao17 t459.length co17) t459) ∧ Aside0 (Kd.N (Kd.slice 9 Kd.string) 31 w' w.heap.size (fun _ => True) v463 t462) ∧ Aside0 (Below w.heap.size w w'))
          case atStart => exact ⟨(t456), (0), (by first | rfl | (simp; done) | (simp [*]; done)), H', ⟨Nat.le_refl _⟩, ⟨Kd.N_V (by (with_reducible repeat (first | apply nA_ | apply nN_ | apply nD_)); exact Kd.N_mono HO458.out (fun _ hk => hk.2))⟩, ⟨by (with_reducible repeat (first | apply nA_ | apply nN_ | apply nD_)); exact Kd.N_mono HO461.out (fun _ hk => hk.2)⟩, ⟨by (with_reducible repeat (first | apply nA_ | apply nN_ | apply nD_)); exact HO464.out⟩, ⟨by repeat (first | (with_reducible first | exact HB.out | apply bA_ | apply bN_ | apply bD_) | exact HB.out)⟩⟩
          case round =>
            clear H'
            try clear c1
            try clear p2
            try clear c4
            try clear c8
            try clear c9
            try clear c10
            try clear c11
            try clear p2
            obtain ⟨x5_2, x8_2, rfl, HA, HK2, HO_5, HO_6, HO_7, HB⟩ := hrel
            cases gk with
            | zero => exact absurd HA.out (by simp [cadencelaw13_DiffMends.l0])
            | succ k2 =>
              have H := HA.out
              clear HA
              simp only [cadencelaw13_DiffMends.l0] at H
              by_cases c19 : x8_2 < (t462.length : Int)
              · rw [if_pos c19] at H
                have c19b0 : decide (x8_2 < (t462.length : Int)) = true := decide_eq_true c19
                clear c19
                by_cases c20 : 0 ≤ x8_2
                · rw [if_pos c20] at H
                  have c20b0 : decide (0 ≤ x8_2) = true := decide_eq_true c20
                  clear c20
                  replace H := Option.bind_eq_some_iff.mp H
                  obtain ⟨⟨t467, t470⟩, A210, H⟩ := H
                  replace H : (if t470 = true then ((cadenceref2_Put.f k2 x5_2 (rd_L1 t462 x8_2) t467).bind fun t472 => (cadencelaw13_DiffMends.l0 k2 t472 t459 t462 (wrap64 (x8_2 + 1)))) else ((cadenceref2_Drop.f k2 x5_2 (rd_L1 t462 x8_2)).bind fun t476 => (cadencelaw13_DiffMends.l0 k2 t476 t459 t462 (wrap64 (x8_2 + 1))))) = some r := H
                  have A21 := Aside0.mk A210
                  clear A210
                  by_cases c22 : t470 = true
                  · subst c22
                    have H1 : ((cadenceref2_Put.f k2 x5_2 (rd_L1 t462 x8_2) t467).bind fun t472 => (cadencelaw13_DiffMends.l0 k2 t472 t459 t462 (wrap64 (x8_2 + 1)))) = some r := by rw [if_pos rfl] at H; exact H
                    clear H
                    have H := H1
                    clear H1
                    replace H := Option.bind_eq_some_iff.mp H
                    obtain ⟨t472, A230, H⟩ := H
                    replace H : (cadencelaw13_DiffMends.l0 k2 t472 t459 t462 (wrap64 (x8_2 + 1))) = some r := H
                    have A23 := Aside0.mk A230
                    clear A230
                    have H' := Aside0.mk H
                    clear H
                    obtain ⟨Ao24, co24, eo24⟩ := Kd.N_slice HO_7.out
                    subst eo24
                    have p466 : 0 ≤ (x8_2 : Int) := of_decide_eq_true (by first | (with_reducible assumption) | assumption)
                    have q466 : x8_2 < (t462.length : Int) := of_decide_eq_true (by first | (with_reducible assumption) | assumption)
                    obtain ⟨ad466, A466_0, c466_0, e466, hx466_0, hl466_0, hi466_0⟩ := at_L1 (Kd.N_reads' HO_7.out).2.2 x8_2 p466 q466
                    cases e466
                    obtain ⟨ce466, hce466, hMe466, hcc466⟩ := Kd.N_get HO_7.out [] x8_2 p466 (by first | exact q466 | exact of_decide_eq_true (by first | (with_reducible assumption) | assumption) | (have e_ := (Kd.N_reads' HO_7.out).1; omega))
                    obtain ⟨ua466_0, uc466_0, rfl, ul466_0, ge466_0⟩ := Kd.FK_slice_open hMe466
                    have hv466_0 := hcc466 0 _ rfl
                    rw [Nat.add_zero, show ((Kd.slice 9 Kd.string)).sz = 1 from rfl, Nat.mul_one] at hv466_0
                    replace hv466_0 := Option.some.inj (hv466_0.symm.trans hx466_0)
                    injection hv466_0 with hva_ hvn_ hvc_
                    rw [hva_] at ge466_0
                    rw [hvc_] at ul466_0
                    have HL466_0 := Aside0.mk (show Kd.V Kd.string 9 _ w.heap.size _ _ (rd_L1 t462 x8_2) from Kd.V_mk ul466_0 ge466_0)
                    clear hva_ hvn_ hvc_ ge466_0 ul466_0
                    clear hcc466 hce466
                    have HR466_0 := Aside0.mk hi466_0
                    have HC466_0 := Aside0.mk hl466_0
                    clear hi466_0 hl466_0
                    replace p466 := eq_true p466
                    replace q466 := eq_true q466
                    go_wp2_with (first | ((with_reducible refine gate_callee (f := 14) rfl ?_); refine goesL_ (some 40) rfl rfl Try.func14 (by kernel_rfl) rfl #[.slice Ao17 t459.length co17, .slice A466_0 (rd_L1 t462 x8_2).length c466_0] rfl (by (try simp only [List.map_toArray, List.map_cons, List.map_nil]); first | done | rfl | (simp only [List.length_drop, List.length_take]; rfl)) ?_; (with_reducible refine (cadenceref2_Get.calls k2 (fun k_ => some k_ ≠ (.slice (some ad466) t462.length co24 : Value).ownBlock) _ _ t459 _ _ (rd_L1 t462 x8_2) t467 true _ ?side1 ?side2 ?side3 A21.out).mono ?_); (case side1 => exact Kd.N_V (HO_6.out)); (case side2 => repeat (first | exact (by repeat (first | (with_reducible exact HR466_0.out) | (with_reducible refine cA_ ?_ _) | (with_reducible refine cN_ ?_ _) | (with_reducible refine cD_ ?_) | exact HR466_0.out)) | (with_reducible refine cA_ ?_ _) | (with_reducible refine cN_ ?_ _) | (with_reducible refine cD_ ?_))); (case side3 => exact HC466_0.out); rintro e w25 ⟨v468, rfl, ho0, hb⟩; refine ⟨_, rfl, ?_⟩; have n0_ := Aside0.mk (Kd.V_below (by (with_reducible repeat (first | apply vA_ | apply vN_ | apply vD_)); exact HO_5.out) hb); have n1_ := Aside0.mk (Kd.N_below (by (with_reducible repeat (first | apply nA_ | apply nN_ | apply nD_)); exact HO_6.out) hb); have n2_ := Aside0.mk (Kd.N_below (by (with_reducible repeat (first | apply nA_ | apply nN_ | apply nD_)); exact HO_7.out) hb); have n3_ := Aside0.mk (Kd.V_below (by (with_reducible repeat (first | apply vA_ | apply vN_ | apply vD_)); exact HL466_0.out) hb); have n4_ := Aside0.mk (Kd.V_lower (Kd.V_mono (ok' := fun k_ => some k_ ≠ (.slice (some ad466) t462.length co24 : Value).ownBlock) ho0 (fun k_ hk_ => Or.elim hk_ (fun hs_ => hs_) (fun hn_ => (Kd.fresh' (Kd.N_lt (by (with_reducible repeat (first | apply nA_ | apply nN_ | apply nD_)); exact HO_7.out)) k_ hn_)))) (below_size (by repeat (first | (with_reducible first | exact HB.out | apply bA_ | apply bN_ | apply bD_) | exact HB.out)))); have n5_ := Aside0.mk (Kd.C_below (by repeat (first | (with_reducible exact HR466_0.out) | (with_reducible refine cA_ ?_ _) | (with_reducible refine cN_ ?_ _) | (with_reducible refine cD_ ?_) | exact HR466_0.out)) hb); have n6_ := Aside0.mk (below_step (by repeat (first | (with_reducible first | exact HB.out | apply bA_ | apply bN_ | apply bD_) | exact HB.out)) hb); clear HO_5; clear HO_6; clear HO_7; clear HL466_0; clear HR466_0; clear HB; have HO_5 := n0_; have HO_6 := n1_; have HO_7 := n2_; have HL466_0 := n3_; have HO469 := n4_; have HR466_0 := n5_; have HB := n6_; clear n0_ n1_ n2_ n3_ n4_ n5_ n6_; (try clear hb); (try clear hb2); (try clear hk); (try clear hi); (try clear ho0); have p471 : 0 ≤ (x8_2 : Int) := of_decide_eq_true (by first | (with_reducible assumption) | assumption); have q471 : x8_2 < (t462.length : Int) := of_decide_eq_true (by first | (with_reducible assumption) | assumption); obtain ⟨ad471, A471_0, c471_0, e471, hx471_0, hl471_0, hi471_0⟩ := at_L1 (Kd.N_reads' HO_7.out).2.2 x8_2 p471 q471; obtain rfl : ad466 = ad471 := (by injection e471); obtain ⟨ce471, hce471, hMe471, hcc471⟩ := Kd.N_get HO_7.out [] x8_2 p471 (by first | exact q471 | exact of_decide_eq_true (by first | (with_reducible assumption) | assumption) | (have e_ := (Kd.N_reads' HO_7.out).1; omega)); obtain ⟨ua471_0, uc471_0, rfl, ul471_0, ge471_0⟩ := Kd.FK_slice_open hMe471; have hv471_0 := hcc471 0 _ rfl; rw [Nat.add_zero, show ((Kd.slice 9 Kd.string)).sz = 1 from rfl, Nat.mul_one] at hv471_0; replace hv471_0 := Option.some.inj (hv471_0.symm.trans hx471_0); injection hv471_0 with hva_ hvn_ hvc_; rw [hva_] at ge471_0; rw [hvc_] at ul471_0; have HL471_0 := Aside0.mk (show Kd.V Kd.string 9 _ w.heap.size _ _ (rd_L1 t462 x8_2) from Kd.V_mk ul471_0 ge471_0); clear hva_ hvn_ hvc_ ge471_0 ul471_0; clear hcc471 hce471; have HR471_0 := Aside0.mk hi471_0; have HC471_0 := Aside0.mk hl471_0; clear hi471_0 hl471_0; replace p471 := eq_true p471; replace q471 := eq_true q471; obtain ⟨Ao26, co26, eo26⟩ := Kd.V_slice HO_5.out; subst eo26; obtain ⟨Ao27, co27, eo27⟩ := Kd.V_slice HO469.out; subst eo27) | ((with_reducible refine gate_callee (f := 15) rfl ?_); refine goesL_ (some 50) rfl rfl Try.func15 (by kernel_rfl) rfl #[.slice Ao26 x5_2.length co26, .slice A471_0 (rd_L1 t462 x8_2).length c471_0, .slice Ao27 t467.length co27] rfl (by (try simp only [List.map_toArray, List.map_cons, List.map_nil]); first | done | rfl | (simp only [List.length_drop, List.length_take]; rfl)) ?_; (with_reducible refine (cadenceref2_Put.calls k2 (fun k_ => some k_ ≠ (.slice (some ad466) t462.length co24 : Value).ownBlock) _ _ x5_2 _ _ (rd_L1 t462 x8_2) (fun k_ => some k_ ≠ (.slice (some ad466) t462.length co24 : Value).ownBlock) _ _ t467 t472 _ ?side1 ?side2 ?side3 ?side4 A23.out).mono ?_); (case side1 => exact HO_5.out); (case side2 => repeat (first | exact (by repeat (first | (with_reducible exact HR471_0.out) | (with_reducible refine cA_ ?_ _) | (with_reducible refine cN_ ?_ _) | (with_reducible refine cD_ ?_) | exact HR471_0.out)) | (with_reducible refine cA_ ?_ _) | (with_reducible refine cN_ ?_ _) | (with_reducible refine cD_ ?_))); (case side3 => exact HC471_0.out); (case side4 => exact HO469.out); rintro e w28 ⟨v473, rfl, ho0, hb⟩; refine ⟨_, rfl, ?_⟩; have n0_ := Aside0.mk (Kd.V_below (by (with_reducible repeat (first | apply vA_ | apply vN_ | apply vD_)); exact HO_5.out) hb); have n1_ := Aside0.mk (Kd.N_below (by (with_reducible repeat (first | apply nA_ | apply nN_ | apply nD_)); exact HO_6.out) hb); have n2_ := Aside0.mk (Kd.N_below (by (with_reducible repeat (first | apply nA_ | apply nN_ | apply nD_)); exact HO_7.out) hb); have n3_ := Aside0.mk (Kd.V_below (by (with_reducible repeat (first | apply vA_ | apply vN_ | apply vD_)); exact HL466_0.out) hb); have n4_ := Aside0.mk (Kd.V_below (by (with_reducible repeat (first | apply vA_ | apply vN_ | apply vD_)); exact HO469.out) hb); have n5_ := Aside0.mk (Kd.V_below (by (with_reducible repeat (first | apply vA_ | apply vN_ | apply vD_)); exact HL471_0.out) hb); have n6_ := Aside0.mk (Kd.V_lower (Kd.V_mono (ok' := fun k_ => some k_ ≠ (.slice (some ad466) t462.length co24 : Value).ownBlock) ho0 (fun k_ hk_ => Or.elim hk_ (fun hs_ => Or.elim hs_ (fun hs_ => hs_) (fun hs_ => hs_)) (fun hn_ => (Kd.fresh' (Kd.N_lt (by (with_reducible repeat (first | apply nA_ | apply nN_ | apply nD_)); exact HO_7.out)) k_ hn_)))) (below_size (by repeat (first | (with_reducible first | exact HB.out | apply bA_ | apply bN_ | apply bD_) | exact HB.out)))); have n7_ := Aside0.mk (Kd.C_below (by repeat (first | (with_reducible exact HR466_0.out) | (with_reducible refine cA_ ?_ _) | (with_reducible refine cN_ ?_ _) | (with_reducible refine cD_ ?_) | exact HR466_0.out)) hb); have n8_ := Aside0.mk (Kd.C_below (by repeat (first | (with_reducible exact HR471_0.out) | (with_reducible refine cA_ ?_ _) | (with_reducible refine cN_ ?_ _) | (with_reducible refine cD_ ?_) | exact HR471_0.out)) hb); have n9_ := Aside0.mk (below_step (by repeat (first | (with_reducible first | exact HB.out | apply bA_ | apply bN_ | apply bD_) | exact HB.out)) hb); clear HO_5; clear HO_6; clear HO_7; clear HL466_0; clear HO469; clear HL471_0; clear HR466_0; clear HR471_0; clear HB; have HO_5 := n0_; have HO_6 := n1_; have HO_7 := n2_; have HL466_0 := n3_; have HO469 := n4_; have HL471_0 := n5_; have HO474 := n6_; have HR466_0 := n7_; have HR471_0 := n8_; have HB := n9_; clear n0_ n1_ n2_ n3_ n4_ n5_ n6_ n7_ n8_ n9_; (try clear hb); (try clear hb2); (try clear hk); (try clear hi); (try clear ho0)))
                    go_roundg k2
                    case measure => have := HJ4.out; have := HK2.out; omega
                    case rel => exact ⟨(t472), (wrap64 (x8_2 + 1)), (by first | rfl | (simp; done) | (simp [*]; done)), H', ⟨by have := HJ4.out; have := HK2.out; omega⟩, ⟨by (with_reducible repeat (first | apply vA_ | apply vN_ | apply vD_)); exact HO474.out⟩, ⟨by (with_reducible repeat (first | apply nA_ | apply nN_ | apply nD_)); exact HO_6.out⟩, ⟨by (with_reducible repeat (first | apply nA_ | apply nN_ | apply nD_)); exact HO_7.out⟩, ⟨by repeat (first | (with_reducible first | exact HB.out | apply bA_ | apply bN_ | apply bD_) | exact HB.out)⟩⟩
                  · replace c22 := Bool.eq_false_iff.mpr c22
                    subst c22
                    have H1 : ((cadenceref2_Drop.f k2 x5_2 (rd_L1 t462 x8_2)).bind fun t476 => (cadencelaw13_DiffMends.l0 k2 t476 t459 t462 (wrap64 (x8_2 + 1)))) = some r := by rw [if_neg (show ¬ (false = true) by decide)] at H; exact H
                    clear H
                    have H := H1
                    clear H1
                    replace H := Option.bind_eq_some_iff.mp H
                    obtain ⟨t476, A290, H⟩ := H
                    replace H : (cadencelaw13_DiffMends.l0 k2 t476 t459 t462 (wrap64 (x8_2 + 1))) = some r := H
                    have A29 := Aside0.mk A290
                    clear A290
                    have H' := Aside0.mk H
                    clear H
                    obtain ⟨Ao30, co30, eo30⟩ := Kd.N_slice HO_7.out
                    subst eo30
                    have p466 : 0 ≤ (x8_2 : Int) := of_decide_eq_true (by first | (with_reducible assumption) | assumption)
                    have q466 : x8_2 < (t462.length : Int) := of_decide_eq_true (by first | (with_reducible assumption) | assumption)
                    obtain ⟨ad466, A466_0, c466_0, e466, hx466_0, hl466_0, hi466_0⟩ := at_L1 (Kd.N_reads' HO_7.out).2.2 x8_2 p466 q466
                    cases e466
                    obtain ⟨ce466, hce466, hMe466, hcc466⟩ := Kd.N_get HO_7.out [] x8_2 p466 (by first | exact q466 | exact of_decide_eq_true (by first | (with_reducible assumption) | assumption) | (have e_ := (Kd.N_reads' HO_7.out).1; omega))
                    obtain ⟨ua466_0, uc466_0, rfl, ul466_0, ge466_0⟩ := Kd.FK_slice_open hMe466
                    have hv466_0 := hcc466 0 _ rfl
                    rw [Nat.add_zero, show ((Kd.slice 9 Kd.string)).sz = 1 from rfl, Nat.mul_one] at hv466_0
                    replace hv466_0 := Option.some.inj (hv466_0.symm.trans hx466_0)
                    injection hv466_0 with hva_ hvn_ hvc_
                    rw [hva_] at ge466_0
                    rw [hvc_] at ul466_0
                    have HL466_0 := Aside0.mk (show Kd.V Kd.string 9 _ w.heap.size _ _ (rd_L1 t462 x8_2) from Kd.V_mk ul466_0 ge466_0)
                    clear hva_ hvn_ hvc_ ge466_0 ul466_0
                    clear hcc466 hce466
                    have HR466_0 := Aside0.mk hi466_0
                    have HC466_0 := Aside0.mk hl466_0
                    clear hi466_0 hl466_0
                    replace p466 := eq_true p466
                    replace q466 := eq_true q466
                    go_wp2_with (first | ((with_reducible refine gate_callee (f := 14) rfl ?_); refine goesL_ (some 40) rfl rfl Try.func14 (by kernel_rfl) rfl #[.slice Ao17 t459.length co17, .slice A466_0 (rd_L1 t462 x8_2).length c466_0] rfl (by (try simp only [List.map_toArray, List.map_cons, List.map_nil]); first | done | rfl | (simp only [List.length_drop, List.length_take]; rfl)) ?_; (with_reducible refine (cadenceref2_Get.calls k2 (fun k_ => some k_ ≠ (.slice (some ad466) t462.length co30 : Value).ownBlock) _ _ t459 _ _ (rd_L1 t462 x8_2) t467 false _ ?side1 ?side2 ?side3 A21.out).mono ?_); (case side1 => exact Kd.N_V (HO_6.out)); (case side2 => repeat (first | exact (by repeat (first | (with_reducible exact HR466_0.out) | (with_reducible refine cA_ ?_ _) | (with_reducible refine cN_ ?_ _) | (with_reducible refine cD_ ?_) | exact HR466_0.out)) | (with_reducible refine cA_ ?_ _) | (with_reducible refine cN_ ?_ _) | (with_reducible refine cD_ ?_))); (case side3 => exact HC466_0.out); rintro e w31 ⟨v468, rfl, ho0, hb⟩; refine ⟨_, rfl, ?_⟩; have n0_ := Aside0.mk (Kd.V_below (by (with_reducible repeat (first | apply vA_ | apply vN_ | apply vD_)); exact HO_5.out) hb); have n1_ := Aside0.mk (Kd.N_below (by (with_reducible repeat (first | apply nA_ | apply nN_ | apply nD_)); exact HO_6.out) hb); have n2_ := Aside0.mk (Kd.N_below (by (with_reducible repeat (first | apply nA_ | apply nN_ | apply nD_)); exact HO_7.out) hb); have n3_ := Aside0.mk (Kd.V_below (by (with_reducible repeat (first | apply vA_ | apply vN_ | apply vD_)); exact HL466_0.out) hb); have n4_ := Aside0.mk (Kd.V_lower (Kd.V_mono (ok' := fun k_ => some k_ ≠ (.slice (some ad466) t462.length co30 : Value).ownBlock) ho0 (fun k_ hk_ => Or.elim hk_ (fun hs_ => hs_) (fun hn_ => (Kd.fresh' (Kd.N_lt (by (with_reducible repeat (first | apply nA_ | apply nN_ | apply nD_)); exact HO_7.out)) k_ hn_)))) (below_size (by repeat (first | (with_reducible first | exact HB.out | apply bA_ | apply bN_ | apply bD_) | exact HB.out)))); have n5_ := Aside0.mk (Kd.C_below (by repeat (first | (with_reducible exact HR466_0.out) | (with_reducible refine cA_ ?_ _) | (with_reducible refine cN_ ?_ _) | (with_reducible refine cD_ ?_) | exact HR466_0.out)) hb); have n6_ := Aside0.mk (below_step (by repeat (first | (with_reducible first | exact HB.out | apply bA_ | apply bN_ | apply bD_) | exact HB.out)) hb); clear HO_5; clear HO_6; clear HO_7; clear HL466_0; clear HR466_0; clear HB; have HO_5 := n0_; have HO_6 := n1_; have HO_7 := n2_; have HL466_0 := n3_; have HO469 := n4_; have HR466_0 := n5_; have HB := n6_; clear n0_ n1_ n2_ n3_ n4_ n5_ n6_; (try clear hb); (try clear hb2); (try clear hk); (try clear hi); (try clear ho0); have p475 : 0 ≤ (x8_2 : Int) := of_decide_eq_true (by first | (with_reducible assumption) | assumption); have q475 : x8_2 < (t462.length : Int) := of_decide_eq_true (by first | (with_reducible assumption) | assumption); obtain ⟨ad475, A475_0, c475_0, e475, hx475_0, hl475_0, hi475_0⟩ := at_L1 (Kd.N_reads' HO_7.out).2.2 x8_2 p475 q475; obtain rfl : ad466 = ad475 := (by injection e475); obtain ⟨ce475, hce475, hMe475, hcc475⟩ := Kd.N_get HO_7.out [] x8_2 p475 (by first | exact q475 | exact of_decide_eq_true (by first | (with_reducible assumption) | assumption) | (have e_ := (Kd.N_reads' HO_7.out).1; omega)); obtain ⟨ua475_0, uc475_0, rfl, ul475_0, ge475_0⟩ := Kd.FK_slice_open hMe475; have hv475_0 := hcc475 0 _ rfl; rw [Nat.add_zero, show ((Kd.slice 9 Kd.string)).sz = 1 from rfl, Nat.mul_one] at hv475_0; replace hv475_0 := Option.some.inj (hv475_0.symm.trans hx475_0); injection hv475_0 with hva_ hvn_ hvc_; rw [hva_] at ge475_0; rw [hvc_] at ul475_0; have HL475_0 := Aside0.mk (show Kd.V Kd.string 9 _ w.heap.size _ _ (rd_L1 t462 x8_2) from Kd.V_mk ul475_0 ge475_0); clear hva_ hvn_ hvc_ ge475_0 ul475_0; clear hcc475 hce475; have HR475_0 := Aside0.mk hi475_0; have HC475_0 := Aside0.mk hl475_0; clear hi475_0 hl475_0; replace p475 := eq_true p475; replace q475 := eq_true q475; obtain ⟨Ao32, co32, eo32⟩ := Kd.V_slice HO_5.out; subst eo32) | ((with_reducible refine gate_callee (f := 16) rfl ?_); refine goesL_ (some 56) rfl rfl Try.func16 (by kernel_rfl) rfl #[.slice Ao32 x5_2.length co32, .slice A475_0 (rd_L1 t462 x8_2).length c475_0] rfl (by (try simp only [List.map_toArray, List.map_cons, List.map_nil]); first | done | rfl | (simp only [List.length_drop, List.length_take]; rfl)) ?_; (with_reducible refine (cadenceref2_Drop.calls k2 (fun k_ => some k_ ≠ (.slice (some ad466) t462.length co30 : Value).ownBlock) _ _ x5_2 _ _ (rd_L1 t462 x8_2) t476 _ ?side1 ?side2 ?side3 A29.out).mono ?_); (case side1 => exact HO_5.out); (case side2 => repeat (first | exact (by repeat (first | (with_reducible exact HR475_0.out) | (with_reducible refine cA_ ?_ _) | (with_reducible refine cN_ ?_ _) | (with_reducible refine cD_ ?_) | exact HR475_0.out)) | (with_reducible refine cA_ ?_ _) | (with_reducible refine cN_ ?_ _) | (with_reducible refine cD_ ?_))); (case side3 => exact HC475_0.out); rintro e w33 ⟨v477, rfl, ho0, hb⟩; refine ⟨_, rfl, ?_⟩; have n0_ := Aside0.mk (Kd.V_below (by (with_reducible repeat (first | apply vA_ | apply vN_ | apply vD_)); exact HO_5.out) hb); have n1_ := Aside0.mk (Kd.N_below (by (with_reducible repeat (first | apply nA_ | apply nN_ | apply nD_)); exact HO_6.out) hb); have n2_ := Aside0.mk (Kd.N_below (by (with_reducible repeat (first | apply nA_ | apply nN_ | apply nD_)); exact HO_7.out) hb); have n3_ := Aside0.mk (Kd.V_below (by (with_reducible repeat (first | apply vA_ | apply vN_ | apply vD_)); exact HL466_0.out) hb); have n4_ := Aside0.mk (Kd.V_below (by (with_reducible repeat (first | apply vA_ | apply vN_ | apply vD_)); exact HO469.out) hb); have n5_ := Aside0.mk (Kd.V_below (by (with_reducible repeat (first | apply vA_ | apply vN_ | apply vD_)); exact HL475_0.out) hb); have n6_ := Aside0.mk (Kd.V_lower (Kd.V_mono (ok' := fun k_ => some k_ ≠ (.slice (some ad466) t462.length co30 : Value).ownBlock) ho0 (fun k_ hk_ => Or.elim hk_ (fun hs_ => hs_) (fun hn_ => (Kd.fresh' (Kd.N_lt (by (with_reducible repeat (first | apply nA_ | apply nN_ | apply nD_)); exact HO_7.out)) k_ hn_)))) (below_size (by repeat (first | (with_reducible first | exact HB.out | apply bA_ | apply bN_ | apply bD_) | exact HB.out)))); have n7_ := Aside0.mk (Kd.C_below (by repeat (first | (with_reducible exact HR466_0.out) | (with_reducible refine cA_ ?_ _) | (with_reducible refine cN_ ?_ _) | (with_reducible refine cD_ ?_) | exact HR466_0.out)) hb); have n8_ := Aside0.mk (Kd.C_below (by repeat (first | (with_reducible exact HR475_0.out) | (with_reducible refine cA_ ?_ _) | (with_reducible refine cN_ ?_ _) | (with_reducible refine cD_ ?_) | exact HR475_0.out)) hb); have n9_ := Aside0.mk (below_step (by repeat (first | (with_reducible first | exact HB.out | apply bA_ | apply bN_ | apply bD_) | exact HB.out)) hb); clear HO_5; clear HO_6; clear HO_7; clear HL466_0; clear HO469; clear HL475_0; clear HR466_0; clear HR475_0; clear HB; have HO_5 := n0_; have HO_6 := n1_; have HO_7 := n2_; have HL466_0 := n3_; have HO469 := n4_; have HL475_0 := n5_; have HO478 := n6_; have HR466_0 := n7_; have HR475_0 := n8_; have HB := n9_; clear n0_ n1_ n2_ n3_ n4_ n5_ n6_ n7_ n8_ n9_; (try clear hb); (try clear hb2); (try clear hk); (try clear hi); (try clear ho0)))
                    go_roundg k2
                    case measure => have := HJ4.out; have := HK2.out; omega
                    case rel => exact ⟨(t476), (wrap64 (x8_2 + 1)), (by first | rfl | (simp; done) | (simp [*]; done)), H', ⟨by have := HJ4.out; have := HK2.out; omega⟩, ⟨by (with_reducible repeat (first | apply vA_ | apply vN_ | apply vD_)); exact HO478.out⟩, ⟨by (with_reducible repeat (first | apply nA_ | apply nN_ | apply nD_)); exact HO_6.out⟩, ⟨by (with_reducible repeat (first | apply nA_ | apply nN_ | apply nD_)); exact HO_7.out⟩, ⟨by repeat (first | (with_reducible first | exact HB.out | apply bA_ | apply bN_ | apply bD_) | exact HB.out)⟩⟩
                · rw [if_neg c20] at H
                  exact absurd H (by simp)
              · rw [if_neg c19] at H
                have c19b0 : decide (x8_2 < (t462.length : Int)) = false := decide_eq_false c19
                clear c19
                replace H := Option.bind_eq_some_iff.mp H
                obtain ⟨t465, A340, H⟩ := H
                replace H : (some t465) = some r := H
                have A34 := Aside0.mk A340
                clear A340
                obtain rfl := Option.some.inj H
                obtain ⟨Ao35, co35, eo35⟩ := Kd.N_slice HO_7.out
                subst eo35
                obtain ⟨Ao36, co36, eo36⟩ := Kd.V_slice HO_5.out
                subst eo36
                go_wp2_with (first | ((with_reducible refine gate_callee (f := 17) rfl ?_); refine goesL_ (some 59) rfl rfl Try.func17 (by kernel_rfl) rfl #[.slice Ao36 x5_2.length co36, .slice Ao17 t459.length co17] rfl (by (try simp only [List.map_toArray, List.map_cons, List.map_nil]); first | done | rfl | (simp only [List.length_drop, List.length_take]; rfl)) ?_; (with_reducible refine (cadenceref2_Same.calls k2 _ _ x5_2 _ _ t459 t465 _ ?side1 ?side2 ?side3 ?side4 A34.out).mono ?_); (case side1 => repeat (first | exact (Kd.V_reads' HO_5.out).2.2 | (with_reducible refine cA_ ?_ _) | (with_reducible refine cN_ ?_ _) | (with_reducible refine cD_ ?_))); (case side2 => exact (Kd.V_reads' HO_5.out).2.1); (case side3 => repeat (first | exact (Kd.N_reads' HO_6.out).2.2 | (with_reducible refine cA_ ?_ _) | (with_reducible refine cN_ ?_ _) | (with_reducible refine cD_ ?_))); (case side4 => exact (Kd.N_reads' HO_6.out).2.1); rintro e w37 ⟨rfl, hb⟩; refine ⟨_, rfl, ?_⟩; have n0_ := Aside0.mk (Kd.V_below (by (with_reducible repeat (first | apply vA_ | apply vN_ | apply vD_)); exact HO_5.out) hb); have n1_ := Aside0.mk (Kd.N_below (by (with_reducible repeat (first | apply nA_ | apply nN_ | apply nD_)); exact HO_6.out) hb); have n2_ := Aside0.mk (Kd.N_below (by (with_reducible repeat (first | apply nA_ | apply nN_ | apply nD_)); exact HO_7.out) hb); have n3_ := Aside0.mk (below_step (by repeat (first | (with_reducible first | exact HB.out | apply bA_ | apply bN_ | apply bD_) | exact HB.out)) hb); clear HO_5; clear HO_6; clear HO_7; clear HB; have HO_5 := n0_; have HO_6 := n1_; have HO_7 := n2_; have HB := n3_; clear n0_ n1_ n2_ n3_; (try clear hb); (try clear hb2); (try clear hk); (try clear hi)))
                go_ret
                exact ⟨by first | rfl | (simp [errW_none, errW_some] <;> rfl) | (simp [*, errW_none, errW_some] <;> rfl), by repeat (first | (with_reducible first | exact HB.out | apply bA_ | apply bN_ | apply bD_) | exact HB.out)⟩
  · replace c4 := Bool.eq_false_iff.mpr c4
    subst c4
    have H1 : (some false) = some r := by rw [if_neg (show ¬ (false = true) by decide)] at H; exact H
    clear H
    have H := H1
    clear H1
    obtain rfl := Option.some.inj H
    go_enter Try.func4, Try.ntmps4
    go_wp2_with (first | ((with_reducible refine gate_callee (f := 8) rfl ?_); refine goesL_ (some 11) rfl rfl Try.func8 (by kernel_rfl) rfl #[] rfl (by (try simp only [List.map_toArray, List.map_cons, List.map_nil]); first | done | rfl | (simp only [List.length_drop, List.length_take]; rfl)) ?_; (with_reducible refine (cadencelaw13_known.calls k  false _ A3.out).mono ?_); rintro e w38 ⟨rfl, hb⟩; refine ⟨_, rfl, ?_⟩; have n0_ := Aside0.mk (below_step (by repeat (first | (with_reducible first | exact HB.out | apply bA_ | apply bN_ | apply bD_) | exact HB.out)) hb); clear HB; have HB := n0_; clear n0_; (try clear hb); (try clear hb2); (try clear hk); (try clear hi)))
    go_ret
    exact ⟨by first | rfl | (simp [errW_none, errW_some] <;> rfl) | (simp [*, errW_none, errW_some] <;> rfl), by repeat (first | (with_reducible first | exact HB.out | apply bA_ | apply bN_ | apply bD_) | exact HB.out)⟩

end Go.Proofs.Ytbhgocpenbibgaa.PX
/- DiffMends: what its printed function comes to. -/
set_option linter.unusedVariables false
namespace Go.Proofs.Ytbhgocpenbibgaa.PX
open Go.RowKit Go.Proofs.YtbhgocpenbibgaaW.PrintWords Go.Proofs.YtbhgocpenbibgaaW.PrintLast Go.Proofs.YtbhgocpenbibgaaW.PrintMore Go.Proofs.Ytbhgocpenbibgaa
theorem diffMends_ev (l m : List Raw) (hl : RawOk l) (hm : RawOk m) : Ev (fun k => cadencelaw13_DiffMends.f k l m) true := by
  obtain ⟨b0, f0, e0⟩ := few_ev hl
  obtain ⟨b1, f1, e1⟩ := few_ev hm
  have out : Ev (fun k => cadencelaw13_DiffMends.j0 k l m true) true := by
    refine Ev.step (f := fun _ => some true) (fun k => ?_) (Ev.now _)
    simp only [cadencelaw13_DiffMends.j0]
    rw [if_pos trivial]
  refine Ev.congr (f := fun k => (cadencelaw13_known.f k).bind fun t => if t = true then (cadencelaw2_Few.f k l).bind fun u => (if u = true then (cadencelaw2_Few.f k m).bind fun v => cadencelaw13_DiffMends.j0 k l m (!v) else cadencelaw13_DiffMends.j0 k l m true) else some false) (fun k => by unfold cadencelaw13_DiffMends.f; rfl) (Ev.bind known_ev (Ev.congr (fun k => if_pos rfl) (Ev.bind e0 ?_)))
  cases b0 with
  | false => exact Ev.congr (fun k => if_neg Bool.false_ne_true) out
  | true =>
    refine Ev.congr (fun k => if_pos rfl) (Ev.bind e1 ?_)
    cases b1 with
    | false => exact out
    | true =>
      clear out f0 f1 e0 e1
      obtain ⟨a, ha, ea⟩ := small_ev hl 8 5 (by omega) (by omega)
      obtain ⟨b, hb, eb⟩ := small_ev hm 8 5 (by omega) (by omega)
      have p1 := paths_ev (W := 8) (by omega) (by omega) (by omega) (by decide) ha hb
      have hp := fun p h => pathsM_deep a b (p := p) (d := 5) h
      have hpl : (pathsM 5 a b).length ≤ 1048576 := pathsM_length (W := 8) (by omega) a b ha hb
      have hall := mends_all ha hb
      generalize pathsM 5 a b = P at p1 hp hpl hall
      have loop : ∀ (d i : Nat), i + d = P.length → Ev (fun k => cadencelaw13_DiffMends.l0 k ((P.take i).foldl (mend b) a) b P (i : Int)) true := by
        intro d
        induction d with
        | zero =>
          intro i hi
          rw [List.take_of_length_le (by omega), hall]
          have hs := same_ev (by omega) hb hb
          rw [decide_eq_true rfl] at hs
          refine Ev.step (f := fun k => (cadenceref2_Same.f k b b).bind fun t => some t) (fun k => ?_) (Ev.bind hs (Ev.now _))
          simp only [cadencelaw13_DiffMends.l0]
          rw [if_neg (by omega)]
        | succ d ih =>
          intro i hi
          have hil : i < P.length := by omega
          have hpi := hp _ (List.getElem_mem hil)
          have hc := mends_ok hb (P.take i) (Nat.le_refl 8) ha
          rw [List.length_take] at hc
          have h0 := ih (i + 1) (by omega)
          rw [List.take_succ_eq_append_getElem hil, List.foldl_append] at h0
          generalize (P.take i).foldl (mend b) a = c at hc h0
          simp only [List.foldl_cons, List.foldl_nil] at h0
          have hg := refGet_ev (by omega) P[i] hb (by omega)
          have hpt := put_ev (by omega) (getR b P[i]).1 P[i] hc (by omega)
          have hdr := drop_ev (by omega) P[i] hc (by omega)
          refine Ev.step (f := fun k => (cadenceref2_Get.f k b P[i]).bind fun u => if u.2 = true then (cadenceref2_Put.f k c P[i] u.1).bind fun t => cadencelaw13_DiffMends.l0 k t b P ((i + 1 : Nat) : Int) else (cadenceref2_Drop.f k c P[i]).bind fun t => cadencelaw13_DiffMends.l0 k t b P ((i + 1 : Nat) : Int)) (fun k => ?_) (Ev.bind hg ?_)
          · simp only [cadencelaw13_DiffMends.l0]
            rw [if_pos (by omega), if_pos (by omega), rdL_s hil, wrap_succ (by omega)]
          · unfold mend at h0
            by_cases hgb : (getR b P[i]).2 = true
            · rw [if_pos hgb] at h0
              exact Ev.congr (fun k => if_pos hgb) (Ev.bind hpt h0)
            · rw [if_neg hgb] at h0
              exact Ev.congr (fun k => if_neg hgb) (Ev.bind hdr h0)
      obtain ⟨K1, h1⟩ := ea
      obtain ⟨K2, h2⟩ := eb
      obtain ⟨K3, h3⟩ := p1
      obtain ⟨K6, h6⟩ := loop P.length 0 (by omega)
      refine ⟨K1 + K2 + K3 + K6 + 1, fun k hk => ?_⟩
      obtain ⟨k, rfl⟩ : ∃ m, k = m + 1 := ⟨k - 1, by omega⟩
      replace h1 : cadencelaw4_Small.f k l 8 5 = some a := h1 k (by omega)
      replace h2 : cadencelaw4_Small.f k m 8 5 = some b := h2 k (by omega)
      replace h3 : diff_Paths.f k a b = some P := h3 k (by omega)
      replace h6 : cadencelaw13_DiffMends.l0 k a b P 0 = some true := h6 k (by omega)
      show cadencelaw13_DiffMends.j0 (k + 1) l m false = some true
      simp only [cadencelaw13_DiffMends.j0]
      rw [if_neg Bool.false_ne_true, h1, Option.bind_some, h2, Option.bind_some, h3, Option.bind_some, h6]
end Go.Proofs.Ytbhgocpenbibgaa.PX
set_option linter.unusedVariables false
set_option linter.unusedSimpArgs false
namespace Go.Proofs.Ytbhgocpenbibgaa.diffMends
open Go.ChangeShapes Go.WideShapes Go.ChangeAt Go.RowKit
open Go.ChangeMaps (open_string shut_string)
open Go.Proofs.Ytbhgocpenbibgaa.PX
theorem own : ownKnob Try.prog.godebug = none := by kernel_rfl
theorem laidOut : laidOutB Try.prog = true := by kernel_rfl
set_option maxRecDepth 100000 in
theorem lifted (os : Os) (started : os.Started) (H : Type) (enc : TypeId × Value → H) :
    ReturnsInHanded {} Try.checked os 4 .any (Rows.diffMendsSpec.pre6 enc Try.prog Try.f4 Rows.diffMendsRow.domain false) (Rows.diffMendsSpec.post enc Try.prog Try.f4 false true false false) := by
  refine returnsInHanded_of_change_sized (C := Try.checked) own started (by kernel_rfl) Try.func4
    (ChangeSpec.witness6 (enc := enc) (C := Try.checked) false ⟨#[], #[.slice none 0 0, .slice none 0 0], []⟩ 8 (by kernel_rfl) (by kernel_rfl) (by kernel_rfl) (by kernel_rfl)) ?_
  intro W base args ds gs before hval0 hW hcnd hsz0 _
  have hsz : (DataW.weightsEach Try.prog (Try.f4.params.toList ++ Rows.diffMendsSpec.plain.varTypes Try.prog) (ds ++ gs)).all (· ≤ reachBytes) = true := hsz0
  have hval : ∀ (j : Nat) t v, Try.f4.params[j]? = some t → args[j]? = some v → Value.okWide Try.prog W .any base t v := hval0
  have hW' := hW
  obtain ⟨p, q, hA0, hV, rfl, hfz, hnd⟩ := hW
  have hA : DataW.TrodAll enc Try.prog W 0 (fun _ => true) true Try.f4.params.toList args.toList ds p := hA0
  rw [Try.params4] at hA hval hsz
  obtain ⟨v0, vs0, d0, ds0, p0, q0, hargs, rfl, rfl, h0, r0⟩ := trodAll_cons hA
  obtain ⟨v1, vs1, d1, ds1, p1, q1, rfl, rfl, rfl, h1, r1⟩ := trodAll_cons r0
  obtain ⟨rfl, rfl, rfl⟩ := trodAll_nil r1
  obtain rfl : args = #[v0, v1] := by cases args; simp_all
  obtain ⟨rfl, rfl⟩ := trodVars_none hV
  have lt0 : ∀ x ∈ p0, x.block < W.heap.size := by obtain ⟨m, hm⟩ := h0; exact DataW.trod_lt m _ _ _ hm
  have k0 := h0
  have lt1 : ∀ x ∈ p1, x.block < W.heap.size := by obtain ⟨m, hm⟩ := h1; exact DataW.trod_lt m _ _ _ hm
  have k1 := h1
  obtain ⟨a0, c0, x0, rfl, L0, C0, R0⟩ := open_raw (okWide_slice Try.underlying22 (hval 0 22 v0 rfl rfl)) h0 hsz (j := 0) rfl rfl
  obtain ⟨a1, c1, x1, rfl, L1, C1, R1⟩ := open_raw (okWide_slice Try.underlying22 (hval 1 22 v1 rfl rfl)) h1 hsz (j := 1) rfl rfl
  clear hA0 hval0 hsz0 hsz
  obtain ⟨k, hk⟩ := (diffMends_ev x0 x1 R0 R1).rounds
  refine (cadencelaw13_DiffMends.calls k a0 c0 x0 a1 c1 x1 true W C0 L0 C1 L1 hk).mono fun e W' ⟨he, bel⟩ => ?_
  subst he
  exact ⟨_, rfl, _, _, _, [], _, [], hW', trodAll_mk1 (shut_bool Try.underlying4 _), (trodAll_cons_mk (Below.trod laidOut (by kernel_rfl) (of_decide_eq_true (by kernel_rfl)) k0 bel lt0) (trodAll_cons_mk (Below.trod laidOut (by kernel_rfl) (of_decide_eq_true (by kernel_rfl)) k1 bel lt1) trodAll_mk0)), rfl, bel.frame _, fun h => by cases h⟩

theorem over : Rows.diffMendsRow.holds Try.pinned (OpenSpec.ofChange Rows.diffMendsSpec) :=
  OpenClaim.holds_of_wide 4 Try.f4 rfl rfl rfl rfl rfl rfl rfl ⟨rfl, rfl, rfl, rfl, rfl⟩ rfl rfl rfl rfl rfl (by kernel_rfl) Try.func4 (by kernel_rfl)
    (of_decide_eq_true (by kernel_rfl)) (by unfold Func.isWrapper; first | (rw [if_pos (by decide +kernel)]; kernel_rfl) | (rw [if_neg (by decide +kernel)]; exact ⟨rfl, rfl⟩))
    (fun os started H enc _ => lifted os started H enc)

theorem proved : Rows.DiffMendsSaid := over
#print axioms proved
end Go.Proofs.Ytbhgocpenbibgaa.diffMends
