/-
  The statement of 'DiffFront': the Go function returns true at every input, and its arguments read as before.
  Conditions: none.
-/
import Derived.Test.YtbhgocpenbibgaaMDiffFront1
import Derived.Test.YtbhgocpenbibgaaMDiffFront2
import Derived.Deep.Slices
import Derived.SizedLaws
import Derived.ChangeSame
import Derived.ChangeShapes
import Derived.ChangeAt
import Derived.WideShapes
import Derived.SliceStrings
import Derived.Test.YtbhgocpenbibgaaRows
import Derived.WalkKit
import Derived.ProofKit
import Derived.OpenShut
import Derived.ShutString
import Derived.ChangeOld
import Derived.Below
-- written by wip/tools/hybrid.py (over the kit's print.py, with functions proved by hand beside it) for this claim
namespace Go.Proofs.Ytbhgocpenbibgaa.PX
open Go.RowKit Go.Proofs.YtbhgocpenbibgaaW.PrintWords Go.Proofs.YtbhgocpenbibgaaW.PrintLast Go.Proofs.YtbhgocpenbibgaaW.PrintMore
attribute [local go_sem] max2_int min2_int max_two min_two max_three min_three max_four min_four   -- for this text's walks alone
set_option linter.unusedVariables false
set_option linter.unusedSimpArgs false

/-! ### cadenceref13_Paths: function 12 -/
mutual
def cadenceref13_Paths.l0 : Nat → List (S45) → List (S45) → List (List ByteArray) → List ByteArray → Int → Option ((List (List ByteArray)))
  | 0, _, _, _, _, _ => none
  | k + 1, x0, x1, x5, x6, x7 => if x7 < (x6.length : Int) then (if 0 ≤ x7 then ((cadenceref2_Kid.f k x0 (rdOf ByteArray.empty x6 x7)).bind fun bt320 => ((cadenceref2_Kid.f k x1 (rdOf ByteArray.empty x6 x7)).bind fun bt325 => (if (bt320.2 != bt325.2) = true then (if x5.length < 5864062014805 then (cadenceref13_Paths.l0 k x0 x1 (x5 ++ [(([rdOf ByteArray.empty x6 x7] : List ByteArray))]) x6 (wrap64 (x7 + 1))) else (none)) else ((cadenceref13_Paths.f k bt320.1 bt325.1).bind fun t336 => (cadenceref13_Paths.l1 k x0 x1 x5 x6 x7 t336 0))))) else (none)) else (some x5)
def cadenceref13_Paths.l1 : Nat → List (S45) → List (S45) → List (List ByteArray) → List ByteArray → Int → List (List ByteArray) → Int → Option ((List (List ByteArray)))
  | 0, _, _, _, _, _, _, _ => none
  | k + 1, x0, x1, x5, x6, x7, x12, x13 => if x13 < (x12.length : Int) then (if 0 ≤ x7 then (if x7 < (x6.length : Int) then ((some (([rdOf ByteArray.empty x6 x7] : List ByteArray) : List ByteArray)).bind fun y340 => (if 0 ≤ x13 then (if y340.length + (rd_L1 x12 x13).length < 8796093022208 then (if x5.length < 5864062014805 then (cadenceref13_Paths.l1 k x0 x1 (x5 ++ [(y340 ++ (rd_L1 x12 x13))]) x6 x7 x12 (wrap64 (x13 + 1))) else (none)) else (none)) else (none))) else (none)) else (none)) else (cadenceref13_Paths.l0 k x0 x1 x5 x6 (wrap64 (x7 + 1)))
def cadenceref13_Paths.f : Nat → List (S45) → List (S45) → Option ((List (List ByteArray)))
  | 0, _, _ => none
  | k + 1, l0, l1 => (cadenceref2_Names.f k (([l0, l1] : List (List (S45))))).bind fun t316 => (cadenceref13_Paths.l0 k l0 l1 ([] : List (List ByteArray)) t316 0)
end
theorem cadenceref13_Paths.mono_l : ∀ k, (∀ y0 y1, LeO (cadenceref13_Paths.f k y0 y1) (cadenceref13_Paths.f (k + 1) y0 y1)) ∧ (∀ y0 y1 y2 y3 y4, LeO (cadenceref13_Paths.l0 k y0 y1 y2 y3 y4) (cadenceref13_Paths.l0 (k + 1) y0 y1 y2 y3 y4)) ∧ (∀ y0 y1 y2 y3 y4 y5 y6, LeO (cadenceref13_Paths.l1 k y0 y1 y2 y3 y4 y5 y6) (cadenceref13_Paths.l1 (k + 1) y0 y1 y2 y3 y4 y5 y6))
  | 0 => ⟨fun _ _ r h => by simp [cadenceref13_Paths.f] at h, fun _ _ _ _ _ r h => by simp [cadenceref13_Paths.l0] at h, fun _ _ _ _ _ _ _ r h => by simp [cadenceref13_Paths.l1] at h⟩
  | k + 1 => by
    obtain ⟨ih0, ih1, ih2⟩ := cadenceref13_Paths.mono_l k
    refine ⟨?_, ?_, ?_⟩
    · intro y0 y1
      unfold cadenceref13_Paths.f
      repeat' first
      | (with_reducible exact ih0 _ _)
      | (with_reducible exact ih1 _ _ _ _ _)
      | (with_reducible exact ih2 _ _ _ _ _ _ _)
      | (with_reducible exact cadenceref2_Kid.mono _ _ _)
      | (with_reducible exact cadenceref2_Names.mono _ _)
      | (with_reducible exact LeO.refl _)
      | (with_reducible exact LeO.none _)
      | (with_reducible refine LeO.ite ?_ ?_)
      | (with_reducible refine LeO.bind ?_ (fun _ => ?_))
      | exact ih0 _ _
      | exact ih1 _ _ _ _ _
      | exact ih2 _ _ _ _ _ _ _
      | exact cadenceref2_Kid.mono _ _ _
      | exact cadenceref2_Names.mono _ _
      | exact LeO.none _
      | refine LeO.ite ?_ ?_
      | refine LeO.bind ?_ (fun _ => ?_)
    · intro y0 y1 y2 y3 y4
      unfold cadenceref13_Paths.l0
      repeat' first
      | (with_reducible exact ih0 _ _)
      | (with_reducible exact ih1 _ _ _ _ _)
      | (with_reducible exact ih2 _ _ _ _ _ _ _)
      | (with_reducible exact cadenceref2_Kid.mono _ _ _)
      | (with_reducible exact cadenceref2_Names.mono _ _)
      | (with_reducible exact LeO.refl _)
      | (with_reducible exact LeO.none _)
      | (with_reducible refine LeO.ite ?_ ?_)
      | (with_reducible refine LeO.bind ?_ (fun _ => ?_))
      | exact ih0 _ _
      | exact ih1 _ _ _ _ _
      | exact ih2 _ _ _ _ _ _ _
      | exact cadenceref2_Kid.mono _ _ _
      | exact cadenceref2_Names.mono _ _
      | exact LeO.none _
      | refine LeO.ite ?_ ?_
      | refine LeO.bind ?_ (fun _ => ?_)
    · intro y0 y1 y2 y3 y4 y5 y6
      unfold cadenceref13_Paths.l1
      repeat' first
      | (with_reducible exact ih0 _ _)
      | (with_reducible exact ih1 _ _ _ _ _)
      | (with_reducible exact ih2 _ _ _ _ _ _ _)
      | (with_reducible exact cadenceref2_Kid.mono _ _ _)
      | (with_reducible exact cadenceref2_Names.mono _ _)
      | (with_reducible exact LeO.refl _)
      | (with_reducible exact LeO.none _)
      | (with_reducible refine LeO.ite ?_ ?_)
      | (with_reducible refine LeO.bind ?_ (fun _ => ?_))
      | exact ih0 _ _
      | exact ih1 _ _ _ _ _
      | exact ih2 _ _ _ _ _ _ _
      | exact cadenceref2_Kid.mono _ _ _
      | exact cadenceref2_Names.mono _ _
      | exact LeO.none _
      | refine LeO.ite ?_ ?_
      | refine LeO.bind ?_ (fun _ => ?_)
theorem cadenceref13_Paths.mono : ∀ a0 a1 k, LeO (cadenceref13_Paths.f k a0 a1) (cadenceref13_Paths.f (k + 1) a0 a1) := by
  intro a0 a1 k
  obtain ⟨ih0, ih1, ih2⟩ := cadenceref13_Paths.mono_l k
  exact ih0 a0 a1
def cadenceref13_Paths.T14 : Bool × List (List Nat × List Nat) := (true, [([], []), ([], []), ([], []), ([1, 2], [1, 2]), ([3], [3]), ([4], [4]), ([], []), ([], []), ([6, 7], [6, 7]), ([8], [8]), ([5, 9], [5, 9]), ([10], [10]), ([0, 11, 10], [0, 11]), ([12, 12, 0, 1, 2, 3, 4, 5, 6, 7, 8, 9, 10, 11, 12], [0, 12])])
def cadenceref13_Paths.B14 : List Nat := [0, 0, 0, 6, 14, 30, 0, 0, 192, 448, 1022, 2046, 4095, 8191]
theorem cadenceref13_Paths.tab14 : rtab .any (opsOf Try.f12 14) = cadenceref13_Paths.T14 := by kernel_rfl
theorem cadenceref13_Paths.bits14 : waitsOk cadenceref13_Paths.T14.2 cadenceref13_Paths.B14 = true := by kernel_rfl
set_option maxHeartbeats 8000000 in
set_option maxRecDepth 100000 in
theorem cadenceref13_Paths.calls (k : Nat) : ∀ (P0_ : Nat → Prop) (A0 : Option Addr) (c0 : Nat) (l0 : List (S45)) (P1_ : Nat → Prop) (A1 : Option Addr) (c1 : Nat) (l1 : List (S45)) (r : List (List ByteArray)) (w : World) (hs0 : Kd.V k45 45 w w.heap.size (fun k_ => P0_ k_) (.slice A0 l0.length c0) l0) (hs1 : Kd.V k45 45 w w.heap.size (fun k_ => P1_ k_) (.slice A1 l1.length c1) l1) (h : cadenceref13_Paths.f k l0 l1 = some r),
    Calls Try.prog 12 #[.slice A0 l0.length c0, .slice A1 l1.length c1] w fun e w' => ∃ v0_ : Value, e = .returned (v0_) ∧ Kd.N (Kd.slice 9 Kd.string) 31 w' w.heap.size (fun k_ => ((P0_ k_ ∨ P1_ k_) ∨ w.heap.size ≤ k_)) v0_ r ∧ Below w.heap.size w w' := by
  induction k using Nat.strongRecOn with
  | _ k ih =>
  intro P0_ A0 c0 l0 P1_ A1 c1 l1 r w hs0 hs1 h
  cases k with
  | zero => exact absurd h (by simp [cadenceref13_Paths.f])
  | succ k =>
  simp only [cadenceref13_Paths.f] at h
  have HO0 := Aside0.mk (show Kd.V k45 45 w w.heap.size (fun k_ => ((P0_ k_ ∨ P1_ k_) ∨ w.heap.size ≤ k_)) (.slice A0 l0.length c0) l0 from Kd.V_mono hs0 (fun k_ hk => .inl (.inl hk)))
  have HO1 := Aside0.mk (show Kd.V k45 45 w w.heap.size (fun k_ => ((P0_ k_ ∨ P1_ k_) ∨ w.heap.size ≤ k_)) (.slice A1 l1.length c1) l1 from Kd.V_mono hs1 (fun k_ hk => .inl (.inr hk)))
  have HB := Aside0.mk (Below.refl w.heap.size w)
  have H : ((cadenceref2_Names.f k (([l0, l1] : List (List (S45))))).bind fun t316 => (cadenceref13_Paths.l0 k l0 l1 ([] : List (List ByteArray)) t316 0)) = some r := h
  clear h
  obtain ⟨y313, hy313⟩ : ∃ y_ : List (List (S45)), y_ = (([l0, l1] : List (List (S45)))) := ⟨_, rfl⟩
  replace H : ((cadenceref2_Names.f k y313).bind fun t316 => (cadenceref13_Paths.l0 k l0 l1 ([] : List (List ByteArray)) t316 0)) = some r := by first | (rw [hy313]; with_reducible exact H) | (have H2_ := (Option.bind_some _ _).symm.trans H; rw [hy313]; with_reducible exact H2_) | (have H2_ := (Option.bind_some _ _).symm.trans H; with_reducible exact H2_) | with_reducible exact H | (rw [hy313]; exact H) | exact H
  have Ny313 := Aside0.mk hy313
  clear hy313
  replace H := Option.bind_eq_some_iff.mp H
  obtain ⟨t316, A30, H⟩ := H
  replace H : (cadenceref13_Paths.l0 k l0 l1 ([] : List (List ByteArray)) t316 0) = some r := H
  have A3 := Aside0.mk A30
  clear A30
  have H' := Aside0.mk H
  clear H
  go_enter Try.func12, Try.ntmps12
  go_wp2_with (first | ((with_reducible refine gate_dst (N := 16) rfl ?_); refine Kd.N_lit (Kd.slice 45 k45) _ 26 ?hg (N' := 16) ?hd (xs := ([l0, l1] : List (List (S45)))) (inner := [.slice A0 l0.length c0, .slice A1 l1.length c1]) (ok := (fun k_ => ((P0_ k_ ∨ P1_ k_) ∨ w.heap.size ≤ k_))) (okp := (fun k_ => ((P0_ k_ ∨ P1_ k_) ∨ w.heap.size ≤ k_))) ?hr ?hp (fun _ hk => hk) ((show ∀ k_, w.heap.size ≤ k_ → (fun k_ => ((P0_ k_ ∨ P1_ k_) ∨ w.heap.size ≤ k_)) k_ from fun k_ hk => (.inr (Nat.le_trans (below_size (by repeat (first | (with_reducible first | exact HB.out | apply bA_ | apply bN_ | apply bD_) | exact HB.out))) hk))) _ (Nat.le_refl _)) (Below.refl _ _) (Nat.le_refl _) (by simp) ?_; (case hd => rfl); (case hg => rfl); (case hr => first | (go_simp; done) | (go_simp; rfl)); (case hp => exact (Reps.one (show Kd.FK (Kd.slice 45 k45) _ _ l0 [.slice A0 l0.length c0] from (Kd.FK_slice_mk (Kd.V_reads' (Kd.V_mono (ok' := (fun k_ => ((P0_ k_ ∨ P1_ k_) ∨ w.heap.size ≤ k_))) (HO0.out) (fun k_ hk => hk))).2.1 (Kd.V_F (Kd.V_mono (ok' := (fun k_ => ((P0_ k_ ∨ P1_ k_) ∨ w.heap.size ≤ k_))) (HO0.out) (fun k_ hk => hk))))) (Reps.one (show Kd.FK (Kd.slice 45 k45) _ _ l1 [.slice A1 l1.length c1] from (Kd.FK_slice_mk (Kd.V_reads' (Kd.V_mono (ok' := (fun k_ => ((P0_ k_ ∨ P1_ k_) ∨ w.heap.size ≤ k_))) (HO1.out) (fun k_ hk => hk))).2.1 (Kd.V_F (Kd.V_mono (ok' := (fun k_ => ((P0_ k_ ∨ P1_ k_) ∨ w.heap.size ≤ k_))) (HO1.out) (fun k_ hk => hk))))) (Reps.none _ _)))); intro v314 w4 ho5 hb hg_ hnew_; clear hg_ hnew_; (first | rw [← Ny313.out] at ho5 | (simp only [Int.reduceToNat] at ho5; rw [← Ny313.out] at ho5)); have n0_ := Aside0.mk (Kd.V_elder' (by (with_reducible repeat (first | apply vA_ | apply vN_ | apply vD_)); exact HO0.out) (Kd.N_base ho5) hb); have n1_ := Aside0.mk (Kd.V_elder' (by (with_reducible repeat (first | apply vA_ | apply vN_ | apply vD_)); exact HO1.out) (Kd.N_base ho5) hb); have n2_ := Aside0.mk (Kd.N_lower ho5 (below_size (by repeat (first | (with_reducible first | exact HB.out | apply bA_ | apply bN_ | apply bD_) | exact HB.out)))); have n3_ := Aside0.mk (below_step (by repeat (first | (with_reducible first | exact HB.out | apply bA_ | apply bN_ | apply bD_) | exact HB.out)) hb); clear HO0; clear HO1; clear HB; have HO0 := n0_; have HO1 := n1_; have HO315 := n2_; have HB := n3_; clear n0_ n1_ n2_ n3_; clear hb ho5; obtain ⟨Ao6, co6, eo6⟩ := Kd.N_slice HO315.out; subst eo6) | ((with_reducible refine gate_callee (f := 30) rfl ?_); refine goesL_ (some 17) rfl rfl Try.func30 (by kernel_rfl) rfl #[.slice Ao6 y313.length co6] rfl (by (try simp only [List.map_toArray, List.map_cons, List.map_nil]); first | done | rfl | (simp only [List.length_drop, List.length_take]; rfl)) ?_; (with_reducible refine (cadenceref2_Names.calls k _ _ y313 t316 _ ?side1 ?side2 A3.out).mono ?_); (case side1 => repeat (first | exact (Kd.N_reads' HO315.out).2.2 | (with_reducible refine cA_ ?_ _) | (with_reducible refine cN_ ?_ _) | (with_reducible refine cD_ ?_))); (case side2 => exact (Kd.N_reads' HO315.out).2.1); rintro e w7 ⟨v317, rfl, ho0, hb⟩; refine ⟨_, rfl, ?_⟩; have n0_ := Aside0.mk (Kd.V_elder' (by (with_reducible repeat (first | apply vA_ | apply vN_ | apply vD_)); exact HO0.out) (Kd.R_base ho0) hb); have n1_ := Aside0.mk (Kd.V_elder' (by (with_reducible repeat (first | apply vA_ | apply vN_ | apply vD_)); exact HO1.out) (Kd.R_base ho0) hb); have n2_ := Aside0.mk (Kd.N_elder' (by (with_reducible repeat (first | apply nA_ | apply nN_ | apply nD_)); exact HO315.out) (Kd.R_base ho0) hb); have n3_ := Aside0.mk (Kd.R_lower (Kd.R_newM (M := fun k_ => (w.heap.size ≤ k_)) ho0 (below_size (by repeat (first | (with_reducible first | exact HB.out | apply bA_ | apply bN_ | apply bD_) | exact HB.out))) (fun k_ h_ => h_)) (below_size (by repeat (first | (with_reducible first | exact HB.out | apply bA_ | apply bN_ | apply bD_) | exact HB.out)))); have n4_ := Aside0.mk (below_step (by repeat (first | (with_reducible first | exact HB.out | apply bA_ | apply bN_ | apply bD_) | exact HB.out)) hb); clear HO0; clear HO1; clear HO315; clear HB; have HO0 := n0_; have HO1 := n1_; have HO315 := n2_; have HO318 := n3_; have HB := n4_; clear n0_ n1_ n2_ n3_ n4_; (try clear hb); (try clear hb2); (try clear hk); (try clear hi); (try clear ho0)))
  go_loopg [5, 7] k (fun kq v5 v7 w' => ∃ (x5_1 : List (List ByteArray)) (x7_1 : Int), v7 = .int .i64 x7_1 ∧ Aside0 (cadenceref13_Paths.l0 kq l0 l1 x5_1 t316 x7_1 = some r) ∧ Aside0 (kq ≤ k) ∧ Aside0 (Kd.V k45 45 w' w.heap.size (fun k_ => ((P0_ k_ ∨ P1_ k_) ∨ w.heap.size ≤ k_) ∧ some k_ ≠ (v5 : Value).ownBlock ∧ some k_ ≠ (v317 : Value).ownBlock) (.slice A0 l0.length c0) l0) ∧ Aside0 (Kd.V k45 45 w' w.heap.size (fun k_ => ((P0_ k_ ∨ P1_ k_) ∨ w.heap.size ≤ k_) ∧ some k_ ≠ (v5 : Value).ownBlock ∧ some k_ ≠ (v317 : Value).ownBlock) (.slice A1 l1.length c1) l1) ∧ Aside0 (Kd.N (Kd.slice 9 Kd.string) 31 w' w.heap.size (fun k_ => ((P0_ k_ ∨ P1_ k_) ∨ w.heap.size ≤ k_) ∧ some k_ ≠ (v317 : Value).ownBlock) v5 x5_1) ∧ Aside0 (Kd.R Kd.string 9 w' w.heap.size (fun k_ => (w.heap.size ≤ k_)) v317 t316) ∧ Aside0 (Below w.heap.size w w'))
  case atStart => exact ⟨(([] : List (List ByteArray))), (0), (by first | rfl | (simp; done) | (simp [*]; done)), H', ⟨Nat.le_refl _⟩, ⟨by (with_reducible repeat (first | apply vA_ | apply vN_ | apply vD_)); exact Kd.V_mono HO0.out (fun _ hk => ⟨hk.1.1, ⟨(by simp [Value.ownBlock]), hk.2⟩⟩)⟩, ⟨by (with_reducible repeat (first | apply vA_ | apply vN_ | apply vD_)); exact Kd.V_mono HO1.out (fun _ hk => ⟨hk.1.1, ⟨(by simp [Value.ownBlock]), hk.2⟩⟩)⟩, ⟨by first | exact Kd.S_nil _ _ _ _ _ | exact Kd.N_nil _ _ _ _ _ | exact Kd.V_nil _ _ _ _ _ | exact Kd.Q_nil _ _ _ _ _ | exact Kd.R_nil _ _ _ _ _⟩, ⟨by (with_reducible repeat (first | apply rA_ | apply rN_ | apply rD_)); exact Kd.R_mono HO318.out (fun _ hk => hk.1)⟩, ⟨by repeat (first | (with_reducible first | exact HB.out | apply bA_ | apply bN_ | apply bD_) | exact HB.out)⟩⟩
  case round =>
    clear H'
    try clear c1
    try clear p2
    try clear c3
    obtain ⟨x5_1, x7_1, rfl, HA, HK1, HO_0, HO_1, HO_5, HO_6, HB⟩ := hrel
    cases gk with
    | zero => exact absurd HA.out (by simp [cadenceref13_Paths.l0])
    | succ k1 =>
      have H := HA.out
      clear HA
      simp only [cadenceref13_Paths.l0] at H
      by_cases c8 : x7_1 < (t316.length : Int)
      · rw [if_pos c8] at H
        have c8b0 : decide (x7_1 < (t316.length : Int)) = true := decide_eq_true c8
        clear c8
        by_cases c9 : 0 ≤ x7_1
        · rw [if_pos c9] at H
          have c9b0 : decide (0 ≤ x7_1) = true := decide_eq_true c9
          clear c9
          replace H := Option.bind_eq_some_iff.mp H
          obtain ⟨⟨t320, t323⟩, A100, H⟩ := H
          replace H : ((cadenceref2_Kid.f k1 l1 (rdOf ByteArray.empty t316 x7_1)).bind fun bt325 => (if (t323 != bt325.2) = true then (if x5_1.length < 5864062014805 then (cadenceref13_Paths.l0 k1 l0 l1 (x5_1 ++ [(([rdOf ByteArray.empty t316 x7_1] : List ByteArray))]) t316 (wrap64 (x7_1 + 1))) else (none)) else ((cadenceref13_Paths.f k1 t320 bt325.1).bind fun t336 => (cadenceref13_Paths.l1 k1 l0 l1 x5_1 t316 x7_1 t336 0)))) = some r := H
          have A10 := Aside0.mk A100
          clear A100
          replace H := Option.bind_eq_some_iff.mp H
          obtain ⟨⟨t325, t328⟩, A110, H⟩ := H
          replace H : (if (t323 != t328) = true then (if x5_1.length < 5864062014805 then (cadenceref13_Paths.l0 k1 l0 l1 (x5_1 ++ [(([rdOf ByteArray.empty t316 x7_1] : List ByteArray))]) t316 (wrap64 (x7_1 + 1))) else (none)) else ((cadenceref13_Paths.f k1 t320 t325).bind fun t336 => (cadenceref13_Paths.l1 k1 l0 l1 x5_1 t316 x7_1 t336 0))) = some r := H
          have A11 := Aside0.mk A110
          clear A110
          by_cases c12 : (t323 != t328) = true
          · rw [if_pos c12] at H
            have c12b0 : (t323 != t328) = true := c12
            (try (have c12b1 : decide (t323 = t328) = false := by simpa using c12))
            (try (have c12b2 : (t323 == t328) = false := by simpa using c12))
            (try (have c12b3 : ¬ (t323 = t328) := by simpa using c12))
            clear c12
            obtain ⟨y330, hy330⟩ : ∃ y_ : List ByteArray, y_ = (([rdOf ByteArray.empty t316 x7_1] : List ByteArray)) := ⟨_, rfl⟩
            replace H : (if x5_1.length < 5864062014805 then (cadenceref13_Paths.l0 k1 l0 l1 (x5_1 ++ [y330]) t316 (wrap64 (x7_1 + 1))) else (none)) = some r := by first | (rw [hy330]; with_reducible exact H) | (have H2_ := (Option.bind_some _ _).symm.trans H; rw [hy330]; with_reducible exact H2_) | (have H2_ := (Option.bind_some _ _).symm.trans H; with_reducible exact H2_) | with_reducible exact H | (rw [hy330]; exact H) | exact H
            have Ny330 := Aside0.mk hy330
            clear hy330
            by_cases c13 : x5_1.length < 5864062014805
            · rw [if_pos c13] at H
              have LMc13 := Aside0.mk c13
              clear c13
              obtain ⟨y333, hy333⟩ : ∃ y_ : List (List ByteArray), y_ = (x5_1 ++ [y330]) := ⟨_, rfl⟩
              replace H : (cadenceref13_Paths.l0 k1 l0 l1 y333 t316 (wrap64 (x7_1 + 1))) = some r := by first | (rw [hy333]; with_reducible exact H) | (have H2_ := (Option.bind_some _ _).symm.trans H; rw [hy333]; with_reducible exact H2_) | (have H2_ := (Option.bind_some _ _).symm.trans H; with_reducible exact H2_) | with_reducible exact H | (rw [hy333]; exact H) | exact H
              have Ny333 := Aside0.mk hy333
              clear hy333
              have H' := Aside0.mk H
              clear H
              obtain ⟨Ao14, co14, eo14⟩ := Kd.R_slice HO_6.out
              subst eo14
              have p319 : 0 ≤ (x7_1 : Int) := of_decide_eq_true (by first | (with_reducible assumption) | assumption)
              have q319 : x7_1 < (t316.length : Int) := of_decide_eq_true (by first | (with_reducible assumption) | assumption)
              obtain ⟨ad319, e319, hx319_0⟩ := Kd.at_string (Kd.R_reads' HO_6.out).2.2 x7_1 p319 q319
              cases e319
              replace p319 := eq_true p319
              replace q319 := eq_true q319
              go_wp2_with (first | ((with_reducible refine gate_callee (f := 31) rfl ?_); refine goesL_ (some 30) rfl rfl Try.func31 (by kernel_rfl) rfl #[.slice A0 l0.length c0, .string (rdOf ByteArray.empty t316 x7_1)] rfl (by (try simp only [List.map_toArray, List.map_cons, List.map_nil]); first | done | rfl | (simp only [List.length_drop, List.length_take]; rfl)) ?_; (with_reducible refine (cadenceref2_Kid.calls k1 (fun k_ => (((P0_ k_ ∨ P1_ k_) ∨ w.heap.size ≤ k_) ∧ (some k_ ≠ (u5 : Value).ownBlock ∧ some k_ ≠ (.slice (some ad319) t316.length co14 : Value).ownBlock))) _ _ l0 (rdOf ByteArray.empty t316 x7_1) t320 t323 _ ?side1 A10.out).mono ?_); (case side1 => exact HO_0.out); rintro e w15 ⟨v321, rfl, ho0, hb⟩; refine ⟨_, rfl, ?_⟩; have n0_ := Aside0.mk (Kd.V_below (by (with_reducible repeat (first | apply vA_ | apply vN_ | apply vD_)); exact HO_0.out) hb); have n1_ := Aside0.mk (Kd.V_below (by (with_reducible repeat (first | apply vA_ | apply vN_ | apply vD_)); exact HO_1.out) hb); have n2_ := Aside0.mk (Kd.N_below (by (with_reducible repeat (first | apply nA_ | apply nN_ | apply nD_)); exact HO_5.out) hb); have n3_ := Aside0.mk (Kd.R_below (by (with_reducible repeat (first | apply rA_ | apply rN_ | apply rD_)); exact HO_6.out) hb); have n4_ := Aside0.mk (Kd.V_lower (Kd.V_mono (ok' := fun k_ => ((P0_ k_ ∨ P1_ k_) ∨ w.heap.size ≤ k_) ∧ some k_ ≠ (u5 : Value).ownBlock ∧ some k_ ≠ (.slice (some ad319) t316.length co14 : Value).ownBlock) ho0 (fun k_ hk_ => ⟨Or.elim hk_ (fun hs_ => hs_.1) (fun hn_ => (.inr (Nat.le_trans (below_size (by repeat (first | (with_reducible first | exact HB.out | apply bA_ | apply bN_ | apply bD_) | exact HB.out))) hn_))), Or.elim hk_ (fun hs_ => hs_.2.1) (fun hn_ => (Kd.fresh' (Kd.N_lt (by (with_reducible repeat (first | apply nA_ | apply nN_ | apply nD_)); exact HO_5.out)) k_ hn_)), Or.elim hk_ (fun hs_ => hs_.2.2) (fun hn_ => (Kd.fresh' (Kd.R_lt (by (with_reducible repeat (first | apply rA_ | apply rN_ | apply rD_)); exact HO_6.out)) k_ hn_))⟩)) (below_size (by repeat (first | (with_reducible first | exact HB.out | apply bA_ | apply bN_ | apply bD_) | exact HB.out)))); have n5_ := Aside0.mk (below_step (by repeat (first | (with_reducible first | exact HB.out | apply bA_ | apply bN_ | apply bD_) | exact HB.out)) hb); clear HO_0; clear HO_1; clear HO_5; clear HO_6; clear HB; have HO_0 := n0_; have HO_1 := n1_; have HO_5 := n2_; have HO_6 := n3_; have HO322 := n4_; have HB := n5_; clear n0_ n1_ n2_ n3_ n4_ n5_; (try clear hb); (try clear hb2); (try clear hk); (try clear hi); (try clear ho0); have p324 : 0 ≤ (x7_1 : Int) := of_decide_eq_true (by first | (with_reducible assumption) | assumption); have q324 : x7_1 < (t316.length : Int) := of_decide_eq_true (by first | (with_reducible assumption) | assumption); obtain ⟨ad324, e324, hx324_0⟩ := Kd.at_string (Kd.R_reads' HO_6.out).2.2 x7_1 p324 q324; obtain rfl : ad319 = ad324 := (by injection e324); replace p324 := eq_true p324; replace q324 := eq_true q324) | ((with_reducible refine gate_callee (f := 31) rfl ?_); refine goesL_ (some 39) rfl rfl Try.func31 (by kernel_rfl) rfl #[.slice A1 l1.length c1, .string (rdOf ByteArray.empty t316 x7_1)] rfl (by (try simp only [List.map_toArray, List.map_cons, List.map_nil]); first | done | rfl | (simp only [List.length_drop, List.length_take]; rfl)) ?_; (with_reducible refine (cadenceref2_Kid.calls k1 (fun k_ => (((P0_ k_ ∨ P1_ k_) ∨ w.heap.size ≤ k_) ∧ (some k_ ≠ (u5 : Value).ownBlock ∧ some k_ ≠ (.slice (some ad319) t316.length co14 : Value).ownBlock))) _ _ l1 (rdOf ByteArray.empty t316 x7_1) t325 t328 _ ?side1 A11.out).mono ?_); (case side1 => exact HO_1.out); rintro e w16 ⟨v326, rfl, ho0, hb⟩; refine ⟨_, rfl, ?_⟩; have n0_ := Aside0.mk (Kd.V_below (by (with_reducible repeat (first | apply vA_ | apply vN_ | apply vD_)); exact HO_0.out) hb); have n1_ := Aside0.mk (Kd.V_below (by (with_reducible repeat (first | apply vA_ | apply vN_ | apply vD_)); exact HO_1.out) hb); have n2_ := Aside0.mk (Kd.N_below (by (with_reducible repeat (first | apply nA_ | apply nN_ | apply nD_)); exact HO_5.out) hb); have n3_ := Aside0.mk (Kd.R_below (by (with_reducible repeat (first | apply rA_ | apply rN_ | apply rD_)); exact HO_6.out) hb); have n4_ := Aside0.mk (Kd.V_below (by (with_reducible repeat (first | apply vA_ | apply vN_ | apply vD_)); exact HO322.out) hb); have n5_ := Aside0.mk (Kd.V_lower (Kd.V_mono (ok' := fun k_ => ((P0_ k_ ∨ P1_ k_) ∨ w.heap.size ≤ k_) ∧ some k_ ≠ (u5 : Value).ownBlock ∧ some k_ ≠ (.slice (some ad319) t316.length co14 : Value).ownBlock) ho0 (fun k_ hk_ => ⟨Or.elim hk_ (fun hs_ => hs_.1) (fun hn_ => (.inr (Nat.le_trans (below_size (by repeat (first | (with_reducible first | exact HB.out | apply bA_ | apply bN_ | apply bD_) | exact HB.out))) hn_))), Or.elim hk_ (fun hs_ => hs_.2.1) (fun hn_ => (Kd.fresh' (Kd.N_lt (by (with_reducible repeat (first | apply nA_ | apply nN_ | apply nD_)); exact HO_5.out)) k_ hn_)), Or.elim hk_ (fun hs_ => hs_.2.2) (fun hn_ => (Kd.fresh' (Kd.R_lt (by (with_reducible repeat (first | apply rA_ | apply rN_ | apply rD_)); exact HO_6.out)) k_ hn_))⟩)) (below_size (by repeat (first | (with_reducible first | exact HB.out | apply bA_ | apply bN_ | apply bD_) | exact HB.out)))); have n6_ := Aside0.mk (below_step (by repeat (first | (with_reducible first | exact HB.out | apply bA_ | apply bN_ | apply bD_) | exact HB.out)) hb); clear HO_0; clear HO_1; clear HO_5; clear HO_6; clear HO322; clear HB; have HO_0 := n0_; have HO_1 := n1_; have HO_5 := n2_; have HO_6 := n3_; have HO322 := n4_; have HO327 := n5_; have HB := n6_; clear n0_ n1_ n2_ n3_ n4_ n5_ n6_; (try clear hb); (try clear hb2); (try clear hk); (try clear hi); (try clear ho0); have p329 : 0 ≤ (x7_1 : Int) := of_decide_eq_true (by first | (with_reducible assumption) | assumption); have q329 : x7_1 < (t316.length : Int) := of_decide_eq_true (by first | (with_reducible assumption) | assumption); obtain ⟨ad329, e329, hx329_0⟩ := Kd.at_string (Kd.R_reads' HO_6.out).2.2 x7_1 p329 q329; obtain rfl : ad319 = ad329 := (by injection e329); replace p329 := eq_true p329; replace q329 := eq_true q329) | ((with_reducible refine gate_dst (N := 50) rfl ?_); refine Kd.R_lit Kd.string _ 9 ?hg (N := 50) ?hd (xs := ([rdOf ByteArray.empty t316 x7_1] : List ByteArray)) (inner := [.string (rdOf ByteArray.empty t316 x7_1)]) (ok := fun _ => True) (okp := fun _ => True) ?hr ?hp (fun _ hk => hk) trivial (Below.refl _ _) (Nat.le_refl _) (by simp) ?_; (case hd => rfl); (case hg => rfl); (case hr => first | (go_simp; done) | (go_simp; rfl)); (case hp => exact (Reps.one (show Kd.M Kd.string _ _ _ (rdOf ByteArray.empty t316 x7_1) [.string (rdOf ByteArray.empty t316 x7_1)] from rfl) (Reps.none _ _))); intro v331 w17 ho18 hb hg_ hnew_; clear hg_ hnew_; (first | rw [← Ny330.out] at ho18 | (simp only [Int.reduceToNat] at ho18; rw [← Ny330.out] at ho18)); have n0_ := Aside0.mk (Kd.V_elder' (by (with_reducible repeat (first | apply vA_ | apply vN_ | apply vD_)); exact HO_0.out) (Kd.R_base ho18) hb); have n1_ := Aside0.mk (Kd.V_elder' (by (with_reducible repeat (first | apply vA_ | apply vN_ | apply vD_)); exact HO_1.out) (Kd.R_base ho18) hb); have n2_ := Aside0.mk (Kd.N_elder' (by (with_reducible repeat (first | apply nA_ | apply nN_ | apply nD_)); exact HO_5.out) (Kd.R_base ho18) hb); have n3_ := Aside0.mk (Kd.R_elder' (by (with_reducible repeat (first | apply rA_ | apply rN_ | apply rD_)); exact HO_6.out) (Kd.R_base ho18) hb); have n4_ := Aside0.mk (Kd.V_elder' (by (with_reducible repeat (first | apply vA_ | apply vN_ | apply vD_)); exact HO322.out) (Kd.R_base ho18) hb); have n5_ := Aside0.mk (Kd.V_elder' (by (with_reducible repeat (first | apply vA_ | apply vN_ | apply vD_)); exact HO327.out) (Kd.R_base ho18) hb); have n6_ := Aside0.mk (Kd.R_lower (Kd.R_new' (Kd.R_newM (M := fun k_ => (w.heap.size ≤ k_)) ho18 (below_size (by repeat (first | (with_reducible first | exact HB.out | apply bA_ | apply bN_ | apply bD_) | exact HB.out))) (fun k_ h_ => h_)) (Kd.R_lt (by (with_reducible repeat (first | apply rA_ | apply rN_ | apply rD_)); exact HO_6.out))) (below_size (by repeat (first | (with_reducible first | exact HB.out | apply bA_ | apply bN_ | apply bD_) | exact HB.out)))); have n7_ := Aside0.mk (below_step (by repeat (first | (with_reducible first | exact HB.out | apply bA_ | apply bN_ | apply bD_) | exact HB.out)) hb); clear HO_0; clear HO_1; clear HO_5; clear HO_6; clear HO322; clear HO327; clear HB; have HO_0 := n0_; have HO_1 := n1_; have HO_5 := n2_; have HO_6 := n3_; have HO322 := n4_; have HO327 := n5_; have HO332 := n6_; have HB := n7_; clear n0_ n1_ n2_ n3_ n4_ n5_ n6_ n7_; clear hb ho18; obtain ⟨Ao20, co20, eo20⟩ := Kd.R_slice HO332.out; subst eo20) | ((with_reducible refine gate_builtin (b := .append) (xs := #[.tmp 45, .tmp 51]) rfl ?_); at_builtin; refine Kd.N_append (Kd.slice 9 Kd.string) (w0 := w) w.heap.size rfl (.tmp 45) (.tmp 51) 28 31 (.slice none 0 0) 24 rfl Try.underlying28 info31 rfl (by decide) (by omega) u5 x5_1 y330 [.slice Ao20 y330.length co20] (fun k_ => ((P0_ k_ ∨ P1_ k_) ∨ w.heap.size ≤ k_) ∧ some k_ ≠ (.slice (some ad319) t316.length co14 : Value).ownBlock) (fun k_ => ((fun k_ => ((P0_ k_ ∨ P1_ k_) ∨ w.heap.size ≤ k_) ∧ some k_ ≠ (.slice (some ad319) t316.length co14 : Value).ownBlock)) k_ ∧ some k_ ≠ (u5 : Value).ownBlock) rfl rfl ?aP (fun _ hk => hk) ?aF ?aO ?aB ?aS ?aL ?_; (case aP => exact (Kd.FK_slice_mk (Kd.R_reads' (Kd.R_mono (ok' := (fun k_ => ((fun k_ => ((P0_ k_ ∨ P1_ k_) ∨ w.heap.size ≤ k_) ∧ some k_ ≠ (.slice (some ad319) t316.length co14 : Value).ownBlock)) k_ ∧ some k_ ≠ (u5 : Value).ownBlock)) (Kd.R_apart' (HO332.out) (Kd.N_typed HO_5.out) (by decide)) (fun k_ hk => ⟨⟨(.inr (hk.1.1.1)), hk.1.2⟩, hk.2⟩))).2.1 (Kd.R_F (Kd.R_mono (ok' := (fun k_ => ((fun k_ => ((P0_ k_ ∨ P1_ k_) ∨ w.heap.size ≤ k_) ∧ some k_ ≠ (.slice (some ad319) t316.length co14 : Value).ownBlock)) k_ ∧ some k_ ≠ (u5 : Value).ownBlock)) (Kd.R_apart' (HO332.out) (Kd.N_typed HO_5.out) (by decide)) (fun k_ hk => ⟨⟨(.inr (hk.1.1.1)), hk.1.2⟩, hk.2⟩))))); (case aB => exact (by repeat (first | (with_reducible first | exact HB.out | apply bA_ | apply bN_ | apply bD_) | exact HB.out))); (case aF => exact (fun k_ hk => ⟨(.inr (Nat.le_trans (below_size (by repeat (first | (with_reducible first | exact HB.out | apply bA_ | apply bN_ | apply bD_) | exact HB.out))) hk)), Kd.fresh' (Kd.R_lt (by (with_reducible repeat (first | apply rA_ | apply rN_ | apply rD_)); exact HO_6.out)) k_ hk⟩)); (case aO => exact (by (with_reducible repeat (first | apply nA_ | apply nN_ | apply nD_)); exact Kd.N_mono HO_5.out (fun _ hk => ⟨hk.1.1, hk.1.2⟩))); (case aS => exact (below_size (by repeat (first | (with_reducible first | exact HB.out | apply bA_ | apply bN_ | apply bD_) | exact HB.out)))); (case aL => have := LMc13.out; omega); intro v334 w19 ho hb hg hat; rw [← Ny333.out] at ho; have n0_ := Aside0.mk (Kd.V_afterv (ok := (fun k_ => ((P0_ k_ ∨ P1_ k_) ∨ w.heap.size ≤ k_) ∧ some k_ ≠ (.slice (some ad319) t316.length co14 : Value).ownBlock ∧ some k_ ≠ (.slice Ao20 y330.length co20 : Value).ownBlock)) (by (with_reducible repeat (first | apply vA_ | apply vN_ | apply vD_)); exact Kd.V_mono HO_0.out (fun _ hk => ⟨⟨hk.1.1, ⟨hk.1.2.2, hk.2⟩⟩, hk.1.2.1⟩)) hg hat); have n1_ := Aside0.mk (Kd.V_afterv (ok := (fun k_ => ((P0_ k_ ∨ P1_ k_) ∨ w.heap.size ≤ k_) ∧ some k_ ≠ (.slice (some ad319) t316.length co14 : Value).ownBlock ∧ some k_ ≠ (.slice Ao20 y330.length co20 : Value).ownBlock)) (by (with_reducible repeat (first | apply vA_ | apply vN_ | apply vD_)); exact Kd.V_mono HO_1.out (fun _ hk => ⟨⟨hk.1.1, ⟨hk.1.2.2, hk.2⟩⟩, hk.1.2.1⟩)) hg hat); have n2_ := Aside0.mk (Kd.R_over' (by (with_reducible repeat (first | apply rA_ | apply rN_ | apply rD_)); exact HO_6.out) (Kd.N_typed (by (with_reducible repeat (first | apply nA_ | apply nN_ | apply nD_)); exact HO_5.out)) (by decide) hg); have n3_ := Aside0.mk (Kd.V_afterv (ok := (fun k_ => ((P0_ k_ ∨ P1_ k_) ∨ w.heap.size ≤ k_) ∧ some k_ ≠ (.slice (some ad319) t316.length co14 : Value).ownBlock ∧ some k_ ≠ (.slice Ao20 y330.length co20 : Value).ownBlock)) (by (with_reducible repeat (first | apply vA_ | apply vN_ | apply vD_)); exact Kd.V_mono HO322.out (fun _ hk => ⟨⟨hk.1.1, ⟨hk.1.2.2, hk.2⟩⟩, hk.1.2.1⟩)) hg hat); have n4_ := Aside0.mk (Kd.V_afterv (ok := (fun k_ => ((P0_ k_ ∨ P1_ k_) ∨ w.heap.size ≤ k_) ∧ some k_ ≠ (.slice (some ad319) t316.length co14 : Value).ownBlock ∧ some k_ ≠ (.slice Ao20 y330.length co20 : Value).ownBlock)) (by (with_reducible repeat (first | apply vA_ | apply vN_ | apply vD_)); exact Kd.V_mono HO327.out (fun _ hk => ⟨⟨hk.1.1, ⟨hk.1.2.2, hk.2⟩⟩, hk.1.2.1⟩)) hg hat); have n5_ := Aside0.mk (hb); have n6_ := Aside0.mk (ho); clear HO_0; clear HO_1; clear HO_6; clear HO322; clear HO327; clear HB; clear HO_5; clear HO332; have HO_0 := n0_; have HO_1 := n1_; have HO_6 := n2_; have HO322 := n3_; have HO327 := n4_; have HB := n5_; have HO335 := n6_; clear n0_ n1_ n2_ n3_ n4_ n5_ n6_; clear ho hb hg hat))
              go_roundg k1
              case measure => have := HK1.out; omega
              case rel => exact ⟨(y333), (wrap64 (x7_1 + 1)), (by first | rfl | (simp; done) | (simp [*]; done)), H', ⟨by have := HK1.out; omega⟩, ⟨by (with_reducible repeat (first | apply vA_ | apply vN_ | apply vD_)); exact Kd.V_mono HO_0.out (fun _ hk => ⟨hk.1.1, ⟨hk.2, hk.1.2.1⟩⟩)⟩, ⟨by (with_reducible repeat (first | apply vA_ | apply vN_ | apply vD_)); exact Kd.V_mono HO_1.out (fun _ hk => ⟨hk.1.1, ⟨hk.2, hk.1.2.1⟩⟩)⟩, ⟨by (with_reducible repeat (first | apply nA_ | apply nN_ | apply nD_)); exact HO335.out⟩, ⟨by (with_reducible repeat (first | apply rA_ | apply rN_ | apply rD_)); exact Kd.R_mono HO_6.out (fun _ hk => hk.1)⟩, ⟨by repeat (first | (with_reducible first | exact HB.out | apply bA_ | apply bN_ | apply bD_) | exact HB.out)⟩⟩
            · rw [if_neg c13] at H
              exact absurd H (by simp)
          · rw [if_neg c12] at H
            have c12b0 : (t323 != t328) = false := by simpa using c12
            (try (have c12b1 : decide (t323 = t328) = true := by simpa using c12))
            (try (have c12b2 : (t323 == t328) = true := by simpa using c12))
            clear c12
            replace H := Option.bind_eq_some_iff.mp H
            obtain ⟨t336, A210, H⟩ := H
            replace H : (cadenceref13_Paths.l1 k1 l0 l1 x5_1 t316 x7_1 t336 0) = some r := H
            have A21 := Aside0.mk A210
            clear A210
            have H' := Aside0.mk H
            clear H
            obtain ⟨Ao22, co22, eo22⟩ := Kd.R_slice HO_6.out
            subst eo22
            have p319 : 0 ≤ (x7_1 : Int) := of_decide_eq_true (by first | (with_reducible assumption) | assumption)
            have q319 : x7_1 < (t316.length : Int) := of_decide_eq_true (by first | (with_reducible assumption) | assumption)
            obtain ⟨ad319, e319, hx319_0⟩ := Kd.at_string (Kd.R_reads' HO_6.out).2.2 x7_1 p319 q319
            cases e319
            replace p319 := eq_true p319
            replace q319 := eq_true q319
            go_wp2_with (first | ((with_reducible refine gate_callee (f := 31) rfl ?_); refine goesL_ (some 30) rfl rfl Try.func31 (by kernel_rfl) rfl #[.slice A0 l0.length c0, .string (rdOf ByteArray.empty t316 x7_1)] rfl (by (try simp only [List.map_toArray, List.map_cons, List.map_nil]); first | done | rfl | (simp only [List.length_drop, List.length_take]; rfl)) ?_; (with_reducible refine (cadenceref2_Kid.calls k1 (fun k_ => (((P0_ k_ ∨ P1_ k_) ∨ w.heap.size ≤ k_) ∧ (some k_ ≠ (u5 : Value).ownBlock ∧ some k_ ≠ (.slice (some ad319) t316.length co22 : Value).ownBlock))) _ _ l0 (rdOf ByteArray.empty t316 x7_1) t320 t323 _ ?side1 A10.out).mono ?_); (case side1 => exact HO_0.out); rintro e w23 ⟨v321, rfl, ho0, hb⟩; refine ⟨_, rfl, ?_⟩; have n0_ := Aside0.mk (Kd.V_below (by (with_reducible repeat (first | apply vA_ | apply vN_ | apply vD_)); exact HO_0.out) hb); have n1_ := Aside0.mk (Kd.V_below (by (with_reducible repeat (first | apply vA_ | apply vN_ | apply vD_)); exact HO_1.out) hb); have n2_ := Aside0.mk (Kd.N_below (by (with_reducible repeat (first | apply nA_ | apply nN_ | apply nD_)); exact HO_5.out) hb); have n3_ := Aside0.mk (Kd.R_below (by (with_reducible repeat (first | apply rA_ | apply rN_ | apply rD_)); exact HO_6.out) hb); have n4_ := Aside0.mk (Kd.V_lower (Kd.V_mono (ok' := fun k_ => ((P0_ k_ ∨ P1_ k_) ∨ w.heap.size ≤ k_) ∧ some k_ ≠ (u5 : Value).ownBlock ∧ some k_ ≠ (.slice (some ad319) t316.length co22 : Value).ownBlock) ho0 (fun k_ hk_ => ⟨Or.elim hk_ (fun hs_ => hs_.1) (fun hn_ => (.inr (Nat.le_trans (below_size (by repeat (first | (with_reducible first | exact HB.out | apply bA_ | apply bN_ | apply bD_) | exact HB.out))) hn_))), Or.elim hk_ (fun hs_ => hs_.2.1) (fun hn_ => (Kd.fresh' (Kd.N_lt (by (with_reducible repeat (first | apply nA_ | apply nN_ | apply nD_)); exact HO_5.out)) k_ hn_)), Or.elim hk_ (fun hs_ => hs_.2.2) (fun hn_ => (Kd.fresh' (Kd.R_lt (by (with_reducible repeat (first | apply rA_ | apply rN_ | apply rD_)); exact HO_6.out)) k_ hn_))⟩)) (below_size (by repeat (first | (with_reducible first | exact HB.out | apply bA_ | apply bN_ | apply bD_) | exact HB.out)))); have n5_ := Aside0.mk (below_step (by repeat (first | (with_reducible first | exact HB.out | apply bA_ | apply bN_ | apply bD_) | exact HB.out)) hb); clear HO_0; clear HO_1; clear HO_5; clear HO_6; clear HB; have HO_0 := n0_; have HO_1 := n1_; have HO_5 := n2_; have HO_6 := n3_; have HO322 := n4_; have HB := n5_; clear n0_ n1_ n2_ n3_ n4_ n5_; (try clear hb); (try clear hb2); (try clear hk); (try clear hi); (try clear ho0); have p324 : 0 ≤ (x7_1 : Int) := of_decide_eq_true (by first | (with_reducible assumption) | assumption); have q324 : x7_1 < (t316.length : Int) := of_decide_eq_true (by first | (with_reducible assumption) | assumption); obtain ⟨ad324, e324, hx324_0⟩ := Kd.at_string (Kd.R_reads' HO_6.out).2.2 x7_1 p324 q324; obtain rfl : ad319 = ad324 := (by injection e324); replace p324 := eq_true p324; replace q324 := eq_true q324) | ((with_reducible refine gate_callee (f := 31) rfl ?_); refine goesL_ (some 39) rfl rfl Try.func31 (by kernel_rfl) rfl #[.slice A1 l1.length c1, .string (rdOf ByteArray.empty t316 x7_1)] rfl (by (try simp only [List.map_toArray, List.map_cons, List.map_nil]); first | done | rfl | (simp only [List.length_drop, List.length_take]; rfl)) ?_; (with_reducible refine (cadenceref2_Kid.calls k1 (fun k_ => (((P0_ k_ ∨ P1_ k_) ∨ w.heap.size ≤ k_) ∧ (some k_ ≠ (u5 : Value).ownBlock ∧ some k_ ≠ (.slice (some ad319) t316.length co22 : Value).ownBlock))) _ _ l1 (rdOf ByteArray.empty t316 x7_1) t325 t328 _ ?side1 A11.out).mono ?_); (case side1 => exact HO_1.out); rintro e w24 ⟨v326, rfl, ho0, hb⟩; refine ⟨_, rfl, ?_⟩; have n0_ := Aside0.mk (Kd.V_below (by (with_reducible repeat (first | apply vA_ | apply vN_ | apply vD_)); exact HO_0.out) hb); have n1_ := Aside0.mk (Kd.V_below (by (with_reducible repeat (first | apply vA_ | apply vN_ | apply vD_)); exact HO_1.out) hb); have n2_ := Aside0.mk (Kd.N_below (by (with_reducible repeat (first | apply nA_ | apply nN_ | apply nD_)); exact HO_5.out) hb); have n3_ := Aside0.mk (Kd.R_below (by (with_reducible repeat (first | apply rA_ | apply rN_ | apply rD_)); exact HO_6.out) hb); have n4_ := Aside0.mk (Kd.V_below (by (with_reducible repeat (first | apply vA_ | apply vN_ | apply vD_)); exact HO322.out) hb); have n5_ := Aside0.mk (Kd.V_lower (Kd.V_mono (ok' := fun k_ => ((P0_ k_ ∨ P1_ k_) ∨ w.heap.size ≤ k_) ∧ some k_ ≠ (u5 : Value).ownBlock ∧ some k_ ≠ (.slice (some ad319) t316.length co22 : Value).ownBlock) ho0 (fun k_ hk_ => ⟨Or.elim hk_ (fun hs_ => hs_.1) (fun hn_ => (.inr (Nat.le_trans (below_size (by repeat (first | (with_reducible first | exact HB.out | apply bA_ | apply bN_ | apply bD_) | exact HB.out))) hn_))), Or.elim hk_ (fun hs_ => hs_.2.1) (fun hn_ => (Kd.fresh' (Kd.N_lt (by (with_reducible repeat (first | apply nA_ | apply nN_ | apply nD_)); exact HO_5.out)) k_ hn_)), Or.elim hk_ (fun hs_ => hs_.2.2) (fun hn_ => (Kd.fresh' (Kd.R_lt (by (with_reducible repeat (first | apply rA_ | apply rN_ | apply rD_)); exact HO_6.out)) k_ hn_))⟩)) (below_size (by repeat (first | (with_reducible first | exact HB.out | apply bA_ | apply bN_ | apply bD_) | exact HB.out)))); have n6_ := Aside0.mk (below_step (by repeat (first | (with_reducible first | exact HB.out | apply bA_ | apply bN_ | apply bD_) | exact HB.out)) hb); clear HO_0; clear HO_1; clear HO_5; clear HO_6; clear HO322; clear HB; have HO_0 := n0_; have HO_1 := n1_; have HO_5 := n2_; have HO_6 := n3_; have HO322 := n4_; have HO327 := n5_; have HB := n6_; clear n0_ n1_ n2_ n3_ n4_ n5_ n6_; (try clear hb); (try clear hb2); (try clear hk); (try clear hi); (try clear ho0); obtain ⟨Ao25, co25, eo25⟩ := Kd.V_slice HO322.out; subst eo25; obtain ⟨Ao26, co26, eo26⟩ := Kd.V_slice HO327.out; subst eo26) | ((with_reducible refine gate_callee (f := 12) rfl ?_); refine goesL_ (some 55) rfl rfl Try.func12 (by kernel_rfl) rfl #[.slice Ao25 t320.length co25, .slice Ao26 t325.length co26] rfl (by (try simp only [List.map_toArray, List.map_cons, List.map_nil]); first | done | rfl | (simp only [List.length_drop, List.length_take]; rfl)) ?_; (with_reducible refine (ih k1 (by have := HK1.out; omega) (fun k_ => (((P0_ k_ ∨ P1_ k_) ∨ w.heap.size ≤ k_) ∧ (some k_ ≠ (u5 : Value).ownBlock ∧ some k_ ≠ (.slice (some ad319) t316.length co22 : Value).ownBlock))) _ _ t320 (fun k_ => (((P0_ k_ ∨ P1_ k_) ∨ w.heap.size ≤ k_) ∧ (some k_ ≠ (u5 : Value).ownBlock ∧ some k_ ≠ (.slice (some ad319) t316.length co22 : Value).ownBlock))) _ _ t325 t336 _ ?side1 ?side2 A21.out).mono ?_); (case side1 => exact HO322.out); (case side2 => exact HO327.out); rintro e w27 ⟨v337, rfl, ho0, hb⟩; refine ⟨_, rfl, ?_⟩; have n0_ := Aside0.mk (Kd.V_elder' (by (with_reducible repeat (first | apply vA_ | apply vN_ | apply vD_)); exact HO_0.out) (Kd.N_base ho0) hb); have n1_ := Aside0.mk (Kd.V_elder' (by (with_reducible repeat (first | apply vA_ | apply vN_ | apply vD_)); exact HO_1.out) (Kd.N_base ho0) hb); have n2_ := Aside0.mk (Kd.N_elder' (by (with_reducible repeat (first | apply nA_ | apply nN_ | apply nD_)); exact HO_5.out) (Kd.N_base ho0) hb); have n3_ := Aside0.mk (Kd.R_below (by (with_reducible repeat (first | apply rA_ | apply rN_ | apply rD_)); exact HO_6.out) hb); have n4_ := Aside0.mk (Kd.V_elder' (by (with_reducible repeat (first | apply vA_ | apply vN_ | apply vD_)); exact HO322.out) (Kd.N_base ho0) hb); have n5_ := Aside0.mk (Kd.V_elder' (by (with_reducible repeat (first | apply vA_ | apply vN_ | apply vD_)); exact HO327.out) (Kd.N_base ho0) hb); have n6_ := Aside0.mk (Kd.N_lower (Kd.N_mono (ok' := fun k_ => ((P0_ k_ ∨ P1_ k_) ∨ w.heap.size ≤ k_) ∧ some k_ ≠ (u5 : Value).ownBlock ∧ some k_ ≠ (.slice (some ad319) t316.length co22 : Value).ownBlock) ho0 (fun k_ hk_ => ⟨Or.elim hk_ (fun hs_ => Or.elim hs_ (fun hs_ => hs_.1) (fun hs_ => hs_.1)) (fun hn_ => (.inr (Nat.le_trans (below_size (by repeat (first | (with_reducible first | exact HB.out | apply bA_ | apply bN_ | apply bD_) | exact HB.out))) hn_))), Or.elim hk_ (fun hs_ => Or.elim hs_ (fun hs_ => hs_.2.1) (fun hs_ => hs_.2.1)) (fun hn_ => (Kd.fresh' (Kd.N_lt (by (with_reducible repeat (first | apply nA_ | apply nN_ | apply nD_)); exact HO_5.out)) k_ hn_)), Or.elim hk_ (fun hs_ => Or.elim hs_ (fun hs_ => hs_.2.2) (fun hs_ => hs_.2.2)) (fun hn_ => (Kd.fresh' (Kd.R_lt (by (with_reducible repeat (first | apply rA_ | apply rN_ | apply rD_)); exact HO_6.out)) k_ hn_))⟩)) (below_size (by repeat (first | (with_reducible first | exact HB.out | apply bA_ | apply bN_ | apply bD_) | exact HB.out)))); have n7_ := Aside0.mk (below_step (by repeat (first | (with_reducible first | exact HB.out | apply bA_ | apply bN_ | apply bD_) | exact HB.out)) hb); clear HO_0; clear HO_1; clear HO_5; clear HO_6; clear HO322; clear HO327; clear HB; have HO_0 := n0_; have HO_1 := n1_; have HO_5 := n2_; have HO_6 := n3_; have HO322 := n4_; have HO327 := n5_; have HO338 := n6_; have HB := n7_; clear n0_ n1_ n2_ n3_ n4_ n5_ n6_ n7_; (try clear hb); (try clear hb2); (try clear hk); (try clear hi); (try clear ho0)))
            go_loopg [5, 13] k1 (fun kq v5 v13 w' => ∃ (x5_2 : List (List ByteArray)) (x13_2 : Int), v13 = .int .i64 x13_2 ∧ Aside0 (cadenceref13_Paths.l1 kq l0 l1 x5_2 t316 x7_1 t336 x13_2 = some r) ∧ Aside0 (kq ≤ k1) ∧ Aside0 (Kd.V k45 45 w' w.heap.size (fun k_ => ((P0_ k_ ∨ P1_ k_) ∨ w.heap.size ≤ k_) ∧ some k_ ≠ (v5 : Value).ownBlock ∧ some k_ ≠ ((.slice (some ad319) t316.length co22) : Value).ownBlock ∧ some k_ ≠ (v337 : Value).ownBlock) (.slice A0 l0.length c0) l0) ∧ Aside0 (Kd.V k45 45 w' w.heap.size (fun k_ => ((P0_ k_ ∨ P1_ k_) ∨ w.heap.size ≤ k_) ∧ some k_ ≠ (v5 : Value).ownBlock ∧ some k_ ≠ ((.slice (some ad319) t316.length co22) : Value).ownBlock ∧ some k_ ≠ (v337 : Value).ownBlock) (.slice A1 l1.length c1) l1) ∧ Aside0 (Kd.N (Kd.slice 9 Kd.string) 31 w' w.heap.size (fun k_ => ((P0_ k_ ∨ P1_ k_) ∨ w.heap.size ≤ k_) ∧ some k_ ≠ ((.slice (some ad319) t316.length co22) : Value).ownBlock ∧ some k_ ≠ (v337 : Value).ownBlock) v5 x5_2) ∧ Aside0 (Kd.R Kd.string 9 w' w.heap.size (fun k_ => (w.heap.size ≤ k_)) (.slice (some ad319) t316.length co22) t316) ∧ Aside0 (Kd.N (Kd.slice 9 Kd.string) 31 w' w.heap.size (fun k_ => ((P0_ k_ ∨ P1_ k_) ∨ w.heap.size ≤ k_) ∧ some k_ ≠ (v5 : Value).ownBlock ∧ some k_ ≠ ((.slice (some ad319) t316.length co22) : Value).ownBlock) v337 t336) ∧ Aside0 (Below w.heap.size w w'))
            case atStart => exact ⟨(x5_1), (0), (by first | rfl | (simp; done) | (simp [*]; done)), H', ⟨Nat.le_refl _⟩, ⟨by (with_reducible repeat (first | apply vA_ | apply vN_ | apply vD_)); exact Kd.V_mono HO_0.out (fun _ hk => ⟨hk.1.1, ⟨hk.1.2.1, ⟨hk.1.2.2, hk.2⟩⟩⟩)⟩, ⟨by (with_reducible repeat (first | apply vA_ | apply vN_ | apply vD_)); exact Kd.V_mono HO_1.out (fun _ hk => ⟨hk.1.1, ⟨hk.1.2.1, ⟨hk.1.2.2, hk.2⟩⟩⟩)⟩, ⟨by (with_reducible repeat (first | apply nA_ | apply nN_ | apply nD_)); exact Kd.N_mono HO_5.out (fun _ hk => ⟨hk.1.1, ⟨hk.1.2, hk.2⟩⟩)⟩, ⟨by (with_reducible repeat (first | apply rA_ | apply rN_ | apply rD_)); exact HO_6.out⟩, ⟨by (with_reducible repeat (first | apply nA_ | apply nN_ | apply nD_)); exact HO338.out⟩, ⟨by repeat (first | (with_reducible first | exact HB.out | apply bA_ | apply bN_ | apply bD_) | exact HB.out)⟩⟩
            case round =>
              clear H'
              try clear c1
              try clear p2
              try clear c3
              try clear p3
              try clear q3
              try clear hx3
              try clear p6
              try clear c8
              try clear c8b0
              try clear c9
              try clear c9b0
              try clear c12
              try clear c12b0
              try clear c12b1
              try clear c12b2
              try clear c13
              try clear hx319_0
              try clear hx324_0
              try clear hx329_0
              try clear p2
              try clear p319
              try clear p324
              try clear p329
              try clear q319
              try clear q324
              try clear q329
              obtain ⟨x5_2, x13_2, rfl, HA, HK2, HO_0, HO_1, HO_5, HO_6, HO_12, HB⟩ := hrel
              cases gk with
              | zero => exact absurd HA.out (by simp [cadenceref13_Paths.l1])
              | succ k2 =>
                have H := HA.out
                clear HA
                simp only [cadenceref13_Paths.l1] at H
                by_cases c28 : x13_2 < (t336.length : Int)
                · rw [if_pos c28] at H
                  have c28b0 : decide (x13_2 < (t336.length : Int)) = true := decide_eq_true c28
                  clear c28
                  by_cases c29 : 0 ≤ x7_1
                  · rw [if_pos c29] at H
                    have c29b0 : decide (0 ≤ x7_1) = true := decide_eq_true c29
                    clear c29
                    by_cases c30 : x7_1 < (t316.length : Int)
                    · rw [if_pos c30] at H
                      have c30b0 : decide (x7_1 < (t316.length : Int)) = true := decide_eq_true c30
                      clear c30
                      obtain ⟨y340, hy340⟩ : ∃ y_ : List ByteArray, y_ = (([rdOf ByteArray.empty t316 x7_1] : List ByteArray)) := ⟨_, rfl⟩
                      replace H : (if 0 ≤ x13_2 then (if y340.length + (rd_L1 t336 x13_2).length < 8796093022208 then (if x5_2.length < 5864062014805 then (cadenceref13_Paths.l1 k2 l0 l1 (x5_2 ++ [(y340 ++ (rd_L1 t336 x13_2))]) t316 x7_1 t336 (wrap64 (x13_2 + 1))) else (none)) else (none)) else (none)) = some r := by first | (rw [hy340]; with_reducible exact H) | (have H2_ := (Option.bind_some _ _).symm.trans H; rw [hy340]; with_reducible exact H2_) | (have H2_ := (Option.bind_some _ _).symm.trans H; with_reducible exact H2_) | with_reducible exact H | (rw [hy340]; exact H) | exact H
                      have Ny340 := Aside0.mk hy340
                      clear hy340
                      by_cases c31 : 0 ≤ x13_2
                      · rw [if_pos c31] at H
                        have c31b0 : decide (0 ≤ x13_2) = true := decide_eq_true c31
                        clear c31
                        by_cases c32 : y340.length + (rd_L1 t336 x13_2).length < 8796093022208
                        · rw [if_pos c32] at H
                          have LMc32 := Aside0.mk c32
                          clear c32
                          obtain ⟨y344, hy344⟩ : ∃ y_ : List ByteArray, y_ = (y340 ++ (rd_L1 t336 x13_2)) := ⟨_, rfl⟩
                          replace H : (if x5_2.length < 5864062014805 then (cadenceref13_Paths.l1 k2 l0 l1 (x5_2 ++ [y344]) t316 x7_1 t336 (wrap64 (x13_2 + 1))) else (none)) = some r := by first | (rw [hy344]; with_reducible exact H) | (have H2_ := (Option.bind_some _ _).symm.trans H; rw [hy344]; with_reducible exact H2_) | (have H2_ := (Option.bind_some _ _).symm.trans H; with_reducible exact H2_) | with_reducible exact H | (rw [hy344]; exact H) | exact H
                          have Ny344 := Aside0.mk hy344
                          clear hy344
                          by_cases c33 : x5_2.length < 5864062014805
                          · rw [if_pos c33] at H
                            have LMc33 := Aside0.mk c33
                            clear c33
                            obtain ⟨y347, hy347⟩ : ∃ y_ : List (List ByteArray), y_ = (x5_2 ++ [y344]) := ⟨_, rfl⟩
                            replace H : (cadenceref13_Paths.l1 k2 l0 l1 y347 t316 x7_1 t336 (wrap64 (x13_2 + 1))) = some r := by first | (rw [hy347]; with_reducible exact H) | (have H2_ := (Option.bind_some _ _).symm.trans H; rw [hy347]; with_reducible exact H2_) | (have H2_ := (Option.bind_some _ _).symm.trans H; with_reducible exact H2_) | with_reducible exact H | (rw [hy347]; exact H) | exact H
                            have Ny347 := Aside0.mk hy347
                            clear hy347
                            have H' := Aside0.mk H
                            clear H
                            obtain ⟨Ao34, co34, eo34⟩ := Kd.N_slice HO_12.out
                            subst eo34
                            try go_wp2
                            have n0_ := Aside0.mk (vD_ HO_0.out)
                            have n1_ := Aside0.mk (vD_ HO_1.out)
                            have n2_ := Aside0.mk (nD_ HO_5.out)
                            have n3_ := Aside0.mk (rD_ HO_6.out)
                            have n4_ := Aside0.mk (nD_ HO_12.out)
                            have n5_ := Aside0.mk (bD_ HB.out)
                            clear HO_0
                            clear HO_1
                            clear HO_5
                            clear HO_6
                            clear HO_12
                            clear HB
                            have HO_0 := n0_
                            have HO_1 := n1_
                            have HO_5 := n2_
                            have HO_6 := n3_
                            have HO_12 := n4_
                            have HB := n5_
                            clear n0_ n1_ n2_ n3_ n4_ n5_
                            have p339 : 0 ≤ (x7_1 : Int) := of_decide_eq_true (by first | (with_reducible assumption) | assumption)
                            have q339 : x7_1 < (t316.length : Int) := of_decide_eq_true (by first | (with_reducible assumption) | assumption)
                            obtain ⟨ad339, e339, hx339_0⟩ := Kd.at_string (Kd.R_reads' HO_6.out).2.2 x7_1 p339 q339
                            obtain rfl : ad319 = ad339 := (by injection e339)
                            replace p339 := eq_true p339
                            replace q339 := eq_true q339
                            have p343 : 0 ≤ (x13_2 : Int) := of_decide_eq_true (by first | (with_reducible assumption) | assumption)
                            have q343 : x13_2 < (t336.length : Int) := of_decide_eq_true (by first | (with_reducible assumption) | assumption)
                            obtain ⟨ad343, A343_0, c343_0, e343, hx343_0, hl343_0, hi343_0⟩ := at_L1 (Kd.N_reads' HO_12.out).2.2 x13_2 p343 q343
                            cases e343
                            obtain ⟨ce343, hce343, hMe343, hcc343⟩ := Kd.N_get HO_12.out [] x13_2 p343 (by first | exact q343 | exact of_decide_eq_true (by first | (with_reducible assumption) | assumption) | (have e_ := (Kd.N_reads' HO_12.out).1; omega))
                            obtain ⟨ua343_0, uc343_0, rfl, ul343_0, ge343_0⟩ := Kd.FK_slice_open hMe343
                            have hv343_0 := hcc343 0 _ rfl
                            rw [Nat.add_zero, show ((Kd.slice 9 Kd.string)).sz = 1 from rfl, Nat.mul_one] at hv343_0
                            replace hv343_0 := Option.some.inj (hv343_0.symm.trans hx343_0)
                            injection hv343_0 with hva_ hvn_ hvc_
                            rw [hva_] at ge343_0
                            rw [hvc_] at ul343_0
                            have HL343_0 := Aside0.mk (show Kd.V Kd.string 9 _ w.heap.size _ _ (rd_L1 t336 x13_2) from Kd.V_mk ul343_0 ge343_0)
                            clear hva_ hvn_ hvc_ ge343_0 ul343_0
                            clear hcc343 hce343
                            have HR343_0 := Aside0.mk hi343_0
                            have HC343_0 := Aside0.mk hl343_0
                            clear hi343_0 hl343_0
                            replace p343 := eq_true p343
                            replace q343 := eq_true q343
                            refine start_ (n := 14) (S := fun w' => w'.cell? (ad319.add (x7_1).toNat) = some (.string (rdOf ByteArray.empty t316 x7_1)) ∧ w'.cell? (ad343.add (x13_2).toNat) = some (.slice A343_0 (rd_L1 t336 x13_2).length c343_0)) (ds := [10, 11, 12]) #[false, false, false, false, false, false, false, false, false, false, false, false, false, false] (by kernel_rfl) rfl rfl ⟨hx339_0, hx343_0⟩ (fun hHeld => ?_); refine with_tabW cadenceref13_Paths.tab14 cadenceref13_Paths.bits14 (fun HT_ HW_ => ?_)
                            generalize wr.drew = w35 at HO_0 HO_1 HO_5 HO_6 HO_12 HB HL343_0 HR343_0 hx339_0 hx343_0 hHeld ⊢
                            refine pure_ (i := 0) (N := some 62) (v := ?_) (a' := ?_) #[true, false, false, false, false, false, false, false, false, false, false, false, false, false] rfl rfl (any_of HT_.out (by kernel_rfl)) (fun _ _ _ h => h) (Or.inl ⟨by rfl, ?_⟩) ?_ ?_
                            rotate_left
                            · intro w'
                              go_simp
                              with_reducible rfl
                            rotate_left
                            · simp only [Act.put, List.setIfInBounds_toArray, List.set_cons_zero, List.set_cons_succ, i64_w, i32_w]
                              rfl
                            refine pure_ (i := 1) (N := some 63) (v := ?_) (a' := ?_) #[true, true, false, false, false, false, false, false, false, false, false, false, false, false] rfl rfl (any_of HT_.out (by kernel_rfl)) (fun _ _ _ h => h) (Or.inl ⟨by rfl, ?_⟩) ?_ ?_
                            rotate_left
                            · intro w'
                              go_simp
                              with_reducible rfl
                            rotate_left
                            · simp only [Act.put, List.setIfInBounds_toArray, List.set_cons_zero, List.set_cons_succ, i64_w, i32_w]
                              rfl
                            refine pure_ (i := 2) (N := some 64) (v := ?_) (a' := ?_) #[true, true, true, false, false, false, false, false, false, false, false, false, false, false] rfl rfl (any_of HT_.out (by kernel_rfl)) (fun _ _ _ h => h) (Or.inl ⟨by rfl, ?_⟩) ?_ ?_
                            rotate_left
                            · intro w'
                              go_simp
                              with_reducible rfl
                            rotate_left
                            · simp only [Act.put, List.setIfInBounds_toArray, List.set_cons_zero, List.set_cons_succ, i64_w, i32_w]
                              rfl
                            refine pure_ (i := 3) (N := some 65) (v := ?_) (a' := ?_) #[true, true, true, true, false, false, false, false, false, false, false, false, false, false] rfl rfl (any_of HT_.out (by kernel_rfl)) (fun _ _ _ h => h) (Or.inl ⟨by rfl, ?_⟩) ?_ ?_
                            rotate_left
                            · intro w'
                              go_simp
                              with_reducible rfl
                            rotate_left
                            · simp only [Act.put, List.setIfInBounds_toArray, List.set_cons_zero, List.set_cons_succ, i64_w, i32_w]
                              rfl
                            refine pure_ (i := 6) (N := some 68) (v := ?_) (a' := ?_) #[true, true, true, true, false, false, true, false, false, false, false, false, false, false] rfl rfl (any_of HT_.out (by kernel_rfl)) (fun _ _ _ h => h) (Or.inl ⟨by rfl, ?_⟩) ?_ ?_
                            rotate_left
                            · intro w'
                              go_simp
                              with_reducible rfl
                            rotate_left
                            · simp only [Act.put, List.setIfInBounds_toArray, List.set_cons_zero, List.set_cons_succ, i64_w, i32_w]
                              rfl
                            refine pure_ (i := 7) (N := some 69) (v := ?_) (a' := ?_) #[true, true, true, true, false, false, true, true, false, false, false, false, false, false] rfl rfl (any_of HT_.out (by kernel_rfl)) (fun _ _ _ h => h) (Or.inl ⟨by rfl, ?_⟩) ?_ ?_
                            rotate_left
                            · intro w'
                              go_simp
                              with_reducible rfl
                            rotate_left
                            · simp only [Act.put, List.setIfInBounds_toArray, List.set_cons_zero, List.set_cons_succ, i64_w, i32_w]
                              rfl
                            refine pure_ (i := 8) (N := some 70) (v := ?_) (a' := ?_) #[true, true, true, true, false, false, true, true, true, false, false, false, false, false] rfl rfl (any_of HT_.out (by kernel_rfl)) (fun _ _ _ h => h) (Or.inl ⟨by rfl, ?_⟩) ?_ ?_
                            rotate_left
                            · intro w'
                              go_simp
                              with_reducible rfl
                            rotate_left
                            · simp only [Act.put, List.setIfInBounds_toArray, List.set_cons_zero, List.set_cons_succ, i64_w, i32_w]
                              rfl
                            refine take_ (i := 4) (N := some 66) (v := ?_) (a' := ?_) #[true, true, true, true, true, false, true, true, true, false, false, false, false, false] rfl rfl (take_ofW HT_.out HW_.out (by kernel_rfl)) (fun _ _ _ h => h) (Or.inl ⟨by rfl, ?_⟩) hHeld ?_ ?_
                            rotate_left
                            · rintro w' ⟨s0, s1⟩
                              go_simp
                              with_reducible rfl
                            rotate_left
                            · simp only [Act.put, List.setIfInBounds_toArray, List.set_cons_zero, List.set_cons_succ, i64_w, i32_w]
                              rfl
                            refine take_ (i := 9) (N := some 71) (v := ?_) (a' := ?_) #[true, true, true, true, true, false, true, true, true, true, false, false, false, false] rfl rfl (take_ofW HT_.out HW_.out (by kernel_rfl)) (fun _ _ _ h => h) (Or.inl ⟨by rfl, ?_⟩) hHeld ?_ ?_
                            rotate_left
                            · rintro w' ⟨s0, s1⟩
                              go_simp
                              with_reducible rfl
                            rotate_left
                            · simp only [Act.put, List.setIfInBounds_toArray, List.set_cons_zero, List.set_cons_succ, i64_w, i32_w]
                              rfl
                            refine one_ (i := 5) (N := some 67) #[true, true, true, true, true, true, true, true, true, true, false, false, false, false] rfl rfl (one_of HT_.out (by kernel_rfl)) (by decide) (fun K hK => ?_)
                            refine Kd.R_lit_step Kd.string _ 9 ?hg (N := 67) ?hd (xs := ([rdOf ByteArray.empty t316 x7_1] : List ByteArray)) (inner := [.string (rdOf ByteArray.empty t316 x7_1)]) (ok := fun _ => True) (okp := fun _ => True) ?hr ?hp (fun _ hk => hk) trivial (Below.refl _ _) (Nat.le_refl _) (by simp) ?_; (case hd => rfl); (case hg => rfl); (case hr => first | (go_simp; done) | (go_simp; rfl)); (case hp => exact (Reps.one (show Kd.M Kd.string _ _ _ (rdOf ByteArray.empty t316 x7_1) [.string (rdOf ByteArray.empty t316 x7_1)] from rfl) (Reps.none _ _)))
                            intro v341 w36 ho37 hb hg_ hnew_
                            have HS0_ := (hb.cell (World.block_lt_of_cell? _ _ (hHeld.1))).trans (hHeld.1)
                            have HS1_ := (hb.cell (World.block_lt_of_cell? _ _ (hHeld.2))).trans (hHeld.2)
                            clear hg_ hnew_
                            (first | rw [← Ny340.out] at ho37 | (simp only [Int.reduceToNat] at ho37; rw [← Ny340.out] at ho37))
                            have n0_ := Aside0.mk (Kd.V_elder' (by (with_reducible repeat (first | apply vA_ | apply vN_ | apply vD_)); exact HO_0.out) (Kd.R_base ho37) hb)
                            have n1_ := Aside0.mk (Kd.V_elder' (by (with_reducible repeat (first | apply vA_ | apply vN_ | apply vD_)); exact HO_1.out) (Kd.R_base ho37) hb)
                            have n2_ := Aside0.mk (Kd.N_elder' (by (with_reducible repeat (first | apply nA_ | apply nN_ | apply nD_)); exact HO_5.out) (Kd.R_base ho37) hb)
                            have n3_ := Aside0.mk (Kd.R_elder' (by (with_reducible repeat (first | apply rA_ | apply rN_ | apply rD_)); exact HO_6.out) (Kd.R_base ho37) hb)
                            have n4_ := Aside0.mk (Kd.N_elder' (by (with_reducible repeat (first | apply nA_ | apply nN_ | apply nD_)); exact HO_12.out) (Kd.R_base ho37) hb)
                            have n5_ := Aside0.mk (Kd.V_elder' (by (with_reducible repeat (first | apply vA_ | apply vN_ | apply vD_)); exact HL343_0.out) (Kd.R_base ho37) hb)
                            have n6_ := Aside0.mk (Kd.R_lower (Kd.R_new' (Kd.R_newM (M := fun k_ => (w.heap.size ≤ k_)) ho37 (below_size (by repeat (first | (with_reducible first | exact HB.out | apply bA_ | apply bN_ | apply bD_) | exact HB.out))) (fun k_ h_ => h_)) (Kd.R_lt (by (with_reducible repeat (first | apply rA_ | apply rN_ | apply rD_)); exact HO_6.out))) (below_size (by repeat (first | (with_reducible first | exact HB.out | apply bA_ | apply bN_ | apply bD_) | exact HB.out))))
                            have n7_ := Aside0.mk (Kd.C_below (by repeat (first | (with_reducible exact HR343_0.out) | (with_reducible refine cA_ ?_ _) | (with_reducible refine cN_ ?_ _) | (with_reducible refine cD_ ?_) | exact HR343_0.out)) hb)
                            have n8_ := Aside0.mk (below_step (by repeat (first | (with_reducible first | exact HB.out | apply bA_ | apply bN_ | apply bD_) | exact HB.out)) hb)
                            clear HO_0
                            clear HO_1
                            clear HO_5
                            clear HO_6
                            clear HO_12
                            clear HL343_0
                            clear HR343_0
                            clear HB
                            have HO_0 := n0_
                            have HO_1 := n1_
                            have HO_5 := n2_
                            have HO_6 := n3_
                            have HO_12 := n4_
                            have HL343_0 := n5_
                            have HO342 := n6_
                            have HR343_0 := n7_
                            have HB := n8_
                            clear n0_ n1_ n2_ n3_ n4_ n5_ n6_ n7_ n8_
                            clear hb ho37
                            refine hK.out _ _ ⟨HS0_, HS1_⟩ (fun hHeld => ?_)
                            clear hK K
                            refine norm_ (a' := ?_) ?_ ?_
                            rotate_left
                            · show Act.put _ (some 67) _ = _
                              simp only [Act.put, List.setIfInBounds_toArray, List.set_cons_zero, List.set_cons_succ, i64_w, i32_w]
                              rfl
                            refine last_ (i := 10) (N := some 72) #[true, true, true, true, true, true, true, true, true, true, true, false, false, false] rfl rfl (one_of HT_.out (by kernel_rfl)) (by decide) (fun K hK => ?_)
                            refine Kd.R_append_rows_step Kd.string (w0 := w) w.heap.size (by rfl) (.tmp 67) (.tmp 71) 31 9 (.string ⟨#[]⟩) 16 rfl Try.underlying31 info9 rfl (by decide) (by omega) v341 y340 (rd_L1 t336 x13_2) _ _ _ (fun k_ => (w.heap.size ≤ k_) ∧ some k_ ≠ (.slice (some ad319) t316.length co22 : Value).ownBlock) (fun _ => False) rfl rfl ?aO ?aR (fun _ _ h => h) (fun _ h => h.elim) ?aF ?aB ?aS ?aL ?_
                            (case aR => repeat (first | exact (by repeat (first | (with_reducible exact HR343_0.out) | (with_reducible refine cA_ ?_ _) | (with_reducible refine cN_ ?_ _) | (with_reducible refine cD_ ?_) | exact HR343_0.out)) | (with_reducible refine cA_ ?_ _) | (with_reducible refine cN_ ?_ _) | (with_reducible refine cD_ ?_)))
                            (case aB => exact (by repeat (first | (with_reducible first | exact HB.out | apply bA_ | apply bN_ | apply bD_) | exact HB.out)))
                            (case aF => exact (fun k_ hk => ⟨(Nat.le_trans (below_size (by repeat (first | (with_reducible first | exact HB.out | apply bA_ | apply bN_ | apply bD_) | exact HB.out))) hk), Kd.fresh' (Kd.R_lt (by (with_reducible repeat (first | apply rA_ | apply rN_ | apply rD_)); exact HO_6.out)) k_ hk⟩))
                            (case aO => exact (by (with_reducible repeat (first | apply rA_ | apply rN_ | apply rD_)); exact Kd.R_mono HO342.out (fun _ hk => ⟨hk.1.1, hk.2⟩)))
                            (case aS => exact (below_size (by repeat (first | (with_reducible first | exact HB.out | apply bA_ | apply bN_ | apply bD_) | exact HB.out))))
                            (case aL => have := LMc32.out; omega)
                            intro v345 w38 ho hb hg hat
                            rw [← Ny344.out] at ho
                            have n0_ := Aside0.mk (Kd.V_afterv (ok := (fun k_ => ((P0_ k_ ∨ P1_ k_) ∨ w.heap.size ≤ k_) ∧ some k_ ≠ (u5 : Value).ownBlock ∧ some k_ ≠ (.slice (some ad319) t316.length co22 : Value).ownBlock ∧ some k_ ≠ (.slice (some ad343) t336.length co34 : Value).ownBlock)) (by (with_reducible repeat (first | apply vA_ | apply vN_ | apply vD_)); exact HO_0.out) hg hat)
                            have n1_ := Aside0.mk (Kd.V_afterv (ok := (fun k_ => ((P0_ k_ ∨ P1_ k_) ∨ w.heap.size ≤ k_) ∧ some k_ ≠ (u5 : Value).ownBlock ∧ some k_ ≠ (.slice (some ad319) t316.length co22 : Value).ownBlock ∧ some k_ ≠ (.slice (some ad343) t336.length co34 : Value).ownBlock)) (by (with_reducible repeat (first | apply vA_ | apply vN_ | apply vD_)); exact HO_1.out) hg hat)
                            have n2_ := Aside0.mk (Kd.N_afterv (ok := (fun k_ => ((P0_ k_ ∨ P1_ k_) ∨ w.heap.size ≤ k_) ∧ some k_ ≠ (.slice (some ad319) t316.length co22 : Value).ownBlock ∧ some k_ ≠ (.slice (some ad343) t336.length co34 : Value).ownBlock)) (by (with_reducible repeat (first | apply nA_ | apply nN_ | apply nD_)); exact HO_5.out) hg hat)
                            have n3_ := Aside0.mk (Kd.R_after (ok := (fun k_ => (w.heap.size ≤ k_))) (by (with_reducible repeat (first | apply rA_ | apply rN_ | apply rD_)); exact HO_6.out) hg hat)
                            have n4_ := Aside0.mk (Kd.N_afterv (ok := (fun k_ => ((P0_ k_ ∨ P1_ k_) ∨ w.heap.size ≤ k_) ∧ some k_ ≠ (u5 : Value).ownBlock ∧ some k_ ≠ (.slice (some ad319) t316.length co22 : Value).ownBlock)) (by (with_reducible repeat (first | apply nA_ | apply nN_ | apply nD_)); exact HO_12.out) hg hat)
                            have n5_ := Aside0.mk (Kd.V_afterv (ok := (fun k_ => ((P0_ k_ ∨ P1_ k_) ∨ w.heap.size ≤ k_) ∧ some k_ ≠ (u5 : Value).ownBlock ∧ some k_ ≠ (.slice (some ad319) t316.length co22 : Value).ownBlock ∧ some k_ ≠ (.slice (some ad343) t336.length co34 : Value).ownBlock)) (by (with_reducible repeat (first | apply vA_ | apply vN_ | apply vD_)); exact Kd.V_mono HL343_0.out (fun _ hk => ⟨⟨hk.1.1.1, ⟨hk.1.1.2.1, ⟨hk.1.1.2.2, hk.1.2⟩⟩⟩, hk.2⟩)) hg hat)
                            have n6_ := Aside0.mk (hb)
                            have n7_ := Aside0.mk (ho)
                            clear HO_0
                            clear HO_1
                            clear HO_5
                            clear HO_6
                            clear HO_12
                            clear HL343_0
                            clear HB
                            clear HO342
                            have HO_0 := n0_
                            have HO_1 := n1_
                            have HO_5 := n2_
                            have HO_6 := n3_
                            have HO_12 := n4_
                            have HL343_0 := n5_
                            have HB := n6_
                            have HO346 := n7_
                            clear n0_ n1_ n2_ n3_ n4_ n5_ n6_ n7_
                            clear ho hb hg hat
                            obtain ⟨Ao40, co40, eo40⟩ := Kd.R_slice HO346.out
                            (first | subst eo40 | (injection eo40 with f1_ f2_ f3_; have f4_ := f1_.symm; have f5_ := f3_.symm; clear f1_ f2_ f3_; subst f4_; subst f5_))
                            refine hK.out _ _ ?_
                            clear hK K
                            refine norm_ (a' := ?_) ?_ ?_
                            rotate_left
                            · show Act.put _ (some 72) _ = _
                              simp only [Act.put, List.setIfInBounds_toArray, List.set_cons_zero, List.set_cons_succ, i64_w, i32_w]
                              rfl
                            refine last_ (i := 11) (N := some 73) #[true, true, true, true, true, true, true, true, true, true, true, true, false, false] rfl rfl (one_of HT_.out (by kernel_rfl)) (by decide) (fun K hK => ?_)
                            refine value_ (w1 := ?_) (v := ?_) (by rfl) rfl ?_ ?_
                            rotate_left 2
                            · go_simp
                              constructor
                              · rfl
                              · rfl
                            refine hK.out _ _ ?_
                            clear hK K
                            refine norm_ (a' := ?_) ?_ ?_
                            rotate_left
                            · show Act.put _ (some 73) _ = _
                              simp only [Act.put, List.setIfInBounds_toArray, List.set_cons_zero, List.set_cons_succ, i64_w, i32_w]
                              rfl
                            refine last_ (i := 12) (N := some 74) #[true, true, true, true, true, true, true, true, true, true, true, true, true, false] rfl rfl (one_of HT_.out (by kernel_rfl)) (by decide) (fun K hK => ?_)
                            refine Kd.N_append_step (Kd.slice 9 Kd.string) (w0 := w) w.heap.size (by rfl) (.tmp 62) (.tmp 73) 28 31 (.slice none 0 0) 24 rfl Try.underlying28 info31 rfl (by decide) (by omega) u5 x5_2 y344 [.slice Ao40 y344.length co40] (fun k_ => ((P0_ k_ ∨ P1_ k_) ∨ w.heap.size ≤ k_) ∧ some k_ ≠ (.slice (some ad319) t316.length co22 : Value).ownBlock ∧ some k_ ≠ (.slice (some ad343) t336.length co34 : Value).ownBlock) (fun k_ => ((fun k_ => ((P0_ k_ ∨ P1_ k_) ∨ w.heap.size ≤ k_) ∧ some k_ ≠ (.slice (some ad319) t316.length co22 : Value).ownBlock ∧ some k_ ≠ (.slice (some ad343) t336.length co34 : Value).ownBlock)) k_ ∧ some k_ ≠ (u5 : Value).ownBlock) rfl rfl ?aP (fun _ hk => hk) ?aF ?aO ?aB ?aS ?aL ?_
                            (case aP => exact (Kd.FK_slice_mk (Kd.R_reads' (Kd.R_mono (ok' := (fun k_ => ((fun k_ => ((P0_ k_ ∨ P1_ k_) ∨ w.heap.size ≤ k_) ∧ some k_ ≠ (.slice (some ad319) t316.length co22 : Value).ownBlock ∧ some k_ ≠ (.slice (some ad343) t336.length co34 : Value).ownBlock)) k_ ∧ some k_ ≠ (u5 : Value).ownBlock)) (Kd.R_apart' (Kd.R_apart' (HO346.out) (Kd.N_typed HO_12.out) (by decide)) (Kd.N_typed HO_5.out) (by decide)) (fun k_ hk => ⟨⟨(.inr (hk.1.1.1)), ⟨hk.1.1.2, hk.1.2⟩⟩, hk.2⟩))).2.1 (Kd.R_F (Kd.R_mono (ok' := (fun k_ => ((fun k_ => ((P0_ k_ ∨ P1_ k_) ∨ w.heap.size ≤ k_) ∧ some k_ ≠ (.slice (some ad319) t316.length co22 : Value).ownBlock ∧ some k_ ≠ (.slice (some ad343) t336.length co34 : Value).ownBlock)) k_ ∧ some k_ ≠ (u5 : Value).ownBlock)) (Kd.R_apart' (Kd.R_apart' (HO346.out) (Kd.N_typed HO_12.out) (by decide)) (Kd.N_typed HO_5.out) (by decide)) (fun k_ hk => ⟨⟨(.inr (hk.1.1.1)), ⟨hk.1.1.2, hk.1.2⟩⟩, hk.2⟩)))))
                            (case aB => exact (by repeat (first | (with_reducible first | exact HB.out | apply bA_ | apply bN_ | apply bD_) | exact HB.out)))
                            (case aF => exact (fun k_ hk => ⟨(.inr (Nat.le_trans (below_size (by repeat (first | (with_reducible first | exact HB.out | apply bA_ | apply bN_ | apply bD_) | exact HB.out))) hk)), Kd.fresh' (Kd.R_lt (by (with_reducible repeat (first | apply rA_ | apply rN_ | apply rD_)); exact HO_6.out)) k_ hk, Kd.fresh' (Kd.N_lt (by (with_reducible repeat (first | apply nA_ | apply nN_ | apply nD_)); exact HO_12.out)) k_ hk⟩))
                            (case aO => exact (by (with_reducible repeat (first | apply nA_ | apply nN_ | apply nD_)); exact Kd.N_mono HO_5.out (fun _ hk => ⟨hk.1.1, ⟨hk.1.2.1, hk.1.2.2⟩⟩)))
                            (case aS => exact (below_size (by repeat (first | (with_reducible first | exact HB.out | apply bA_ | apply bN_ | apply bD_) | exact HB.out))))
                            (case aL => have := LMc33.out; omega)
                            intro v348 w39 ho hb hg hat
                            rw [← Ny347.out] at ho
                            have n0_ := Aside0.mk (Kd.V_afterv (ok := (fun k_ => ((P0_ k_ ∨ P1_ k_) ∨ w.heap.size ≤ k_) ∧ some k_ ≠ (.slice (some ad319) t316.length co22 : Value).ownBlock ∧ some k_ ≠ (.slice (some ad343) t336.length co34 : Value).ownBlock ∧ some k_ ≠ (.slice Ao40 y344.length co40 : Value).ownBlock)) (by (with_reducible repeat (first | apply vA_ | apply vN_ | apply vD_)); exact Kd.V_mono HO_0.out (fun _ hk => ⟨⟨hk.1.1, ⟨hk.1.2.2.1, ⟨hk.1.2.2.2, hk.2⟩⟩⟩, hk.1.2.1⟩)) hg hat)
                            have n1_ := Aside0.mk (Kd.V_afterv (ok := (fun k_ => ((P0_ k_ ∨ P1_ k_) ∨ w.heap.size ≤ k_) ∧ some k_ ≠ (.slice (some ad319) t316.length co22 : Value).ownBlock ∧ some k_ ≠ (.slice (some ad343) t336.length co34 : Value).ownBlock ∧ some k_ ≠ (.slice Ao40 y344.length co40 : Value).ownBlock)) (by (with_reducible repeat (first | apply vA_ | apply vN_ | apply vD_)); exact Kd.V_mono HO_1.out (fun _ hk => ⟨⟨hk.1.1, ⟨hk.1.2.2.1, ⟨hk.1.2.2.2, hk.2⟩⟩⟩, hk.1.2.1⟩)) hg hat)
                            have n2_ := Aside0.mk (Kd.R_over' (by (with_reducible repeat (first | apply rA_ | apply rN_ | apply rD_)); exact HO_6.out) (Kd.N_typed (by (with_reducible repeat (first | apply nA_ | apply nN_ | apply nD_)); exact HO_5.out)) (by decide) hg)
                            have n3_ := Aside0.mk (Kd.N_afterv (ok := (fun k_ => ((P0_ k_ ∨ P1_ k_) ∨ w.heap.size ≤ k_) ∧ some k_ ≠ (.slice (some ad319) t316.length co22 : Value).ownBlock ∧ some k_ ≠ (.slice Ao40 y344.length co40 : Value).ownBlock)) (by (with_reducible repeat (first | apply nA_ | apply nN_ | apply nD_)); exact Kd.N_mono HO_12.out (fun _ hk => ⟨⟨hk.1.1, ⟨hk.1.2.2, hk.2⟩⟩, hk.1.2.1⟩)) hg hat)
                            have n4_ := Aside0.mk (Kd.V_afterv (ok := (fun k_ => ((P0_ k_ ∨ P1_ k_) ∨ w.heap.size ≤ k_) ∧ some k_ ≠ (.slice (some ad319) t316.length co22 : Value).ownBlock ∧ some k_ ≠ (.slice (some ad343) t336.length co34 : Value).ownBlock ∧ some k_ ≠ (.slice Ao40 y344.length co40 : Value).ownBlock)) (by (with_reducible repeat (first | apply vA_ | apply vN_ | apply vD_)); exact Kd.V_mono HL343_0.out (fun _ hk => ⟨⟨hk.1.1, ⟨hk.1.2.2.1, ⟨hk.1.2.2.2, hk.2⟩⟩⟩, hk.1.2.1⟩)) hg hat)
                            have n5_ := Aside0.mk (hb)
                            have n6_ := Aside0.mk (ho)
                            clear HO_0
                            clear HO_1
                            clear HO_6
                            clear HO_12
                            clear HL343_0
                            clear HB
                            clear HO_5
                            clear HO346
                            have HO_0 := n0_
                            have HO_1 := n1_
                            have HO_6 := n2_
                            have HO_12 := n3_
                            have HL343_0 := n4_
                            have HB := n5_
                            have HO349 := n6_
                            clear n0_ n1_ n2_ n3_ n4_ n5_ n6_
                            clear ho hb hg hat
                            refine hK.out _ _ ?_
                            clear hK K
                            refine norm_ (a' := ?_) ?_ ?_
                            rotate_left
                            · show Act.put _ (some 74) _ = _
                              simp only [Act.put, List.setIfInBounds_toArray, List.set_cons_zero, List.set_cons_succ, i64_w, i32_w]
                              rfl
                            refine pure_ (i := 13) (N := some 5) (v := ?_) (a' := ?_) #[true, true, true, true, true, true, true, true, true, true, true, true, true, true] rfl rfl (any_of HT_.out (by kernel_rfl)) (fun _ _ _ h => h) (Or.inl ⟨by rfl, ?_⟩) ?_ ?_
                            rotate_left
                            · intro w'
                              go_simp
                              with_reducible rfl
                            rotate_left
                            · simp only [Act.put, List.setIfInBounds_toArray, List.set_cons_zero, List.set_cons_succ, i64_w, i32_w]
                              rfl
                            refine done_ (done_of HT_.out (by kernel_rfl)) ?_
                            try go_wp2
                            go_roundg k2
                            case measure => have := HK1.out; have := HK2.out; omega
                            case rel => exact ⟨(y347), (wrap64 (x13_2 + 1)), (by first | rfl | (simp; done) | (simp [*]; done)), H', ⟨by have := HK1.out; have := HK2.out; omega⟩, ⟨by (with_reducible repeat (first | apply vA_ | apply vN_ | apply vD_)); exact Kd.V_mono HO_0.out (fun _ hk => ⟨hk.1.1, ⟨hk.2, ⟨hk.1.2.1, hk.1.2.2.1⟩⟩⟩)⟩, ⟨by (with_reducible repeat (first | apply vA_ | apply vN_ | apply vD_)); exact Kd.V_mono HO_1.out (fun _ hk => ⟨hk.1.1, ⟨hk.2, ⟨hk.1.2.1, hk.1.2.2.1⟩⟩⟩)⟩, ⟨by (with_reducible repeat (first | apply nA_ | apply nN_ | apply nD_)); exact HO349.out⟩, ⟨by (with_reducible repeat (first | apply rA_ | apply rN_ | apply rD_)); exact Kd.R_mono HO_6.out (fun _ hk => hk.1)⟩, ⟨by (with_reducible repeat (first | apply nA_ | apply nN_ | apply nD_)); exact Kd.N_mono HO_12.out (fun _ hk => ⟨hk.1.1, ⟨hk.2, hk.1.2.1⟩⟩)⟩, ⟨by repeat (first | (with_reducible first | exact HB.out | apply bA_ | apply bN_ | apply bD_) | exact HB.out)⟩⟩
                          · rw [if_neg c33] at H
                            exact absurd H (by simp)
                        · rw [if_neg c32] at H
                          exact absurd H (by simp)
                      · rw [if_neg c31] at H
                        exact absurd H (by simp)
                    · rw [if_neg c30] at H
                      exact absurd H (by simp)
                  · rw [if_neg c29] at H
                    exact absurd H (by simp)
                · rw [if_neg c28] at H
                  have c28b0 : decide (x13_2 < (t336.length : Int)) = false := decide_eq_false c28
                  clear c28
                  have H' := Aside0.mk H
                  clear H
                  obtain ⟨Ao41, co41, eo41⟩ := Kd.N_slice HO_12.out
                  subst eo41
                  go_wp2
                  go_roundg k2
                  case measure => have := HK1.out; have := HK2.out; omega
                  case rel => exact ⟨(x5_2), (wrap64 (x7_1 + 1)), (by first | rfl | (simp; done) | (simp [*]; done)), H', ⟨by have := HK1.out; have := HK2.out; omega⟩, ⟨by (with_reducible repeat (first | apply vA_ | apply vN_ | apply vD_)); exact Kd.V_mono HO_0.out (fun _ hk => ⟨hk.1, ⟨hk.2.1, hk.2.2.1⟩⟩)⟩, ⟨by (with_reducible repeat (first | apply vA_ | apply vN_ | apply vD_)); exact Kd.V_mono HO_1.out (fun _ hk => ⟨hk.1, ⟨hk.2.1, hk.2.2.1⟩⟩)⟩, ⟨by (with_reducible repeat (first | apply nA_ | apply nN_ | apply nD_)); exact Kd.N_mono HO_5.out (fun _ hk => ⟨hk.1, hk.2.1⟩)⟩, ⟨by (with_reducible repeat (first | apply rA_ | apply rN_ | apply rD_)); exact HO_6.out⟩, ⟨by repeat (first | (with_reducible first | exact HB.out | apply bA_ | apply bN_ | apply bD_) | exact HB.out)⟩⟩
        · rw [if_neg c9] at H
          exact absurd H (by simp)
      · rw [if_neg c8] at H
        have c8b0 : decide (x7_1 < (t316.length : Int)) = false := decide_eq_false c8
        clear c8
        obtain rfl := Option.some.inj H
        obtain ⟨Ao42, co42, eo42⟩ := Kd.R_slice HO_6.out
        subst eo42
        go_wp2
        go_ret
        exact ⟨_, by first | rfl | (simp [errW_none, errW_some] <;> rfl) | (simp [*, errW_none, errW_some] <;> rfl), by (with_reducible repeat (first | apply nA_ | apply nN_ | apply nD_)); exact Kd.N_mono HO_5.out (fun _ hk => hk.1), by repeat (first | (with_reducible first | exact HB.out | apply bA_ | apply bN_ | apply bD_) | exact HB.out)⟩

end Go.Proofs.Ytbhgocpenbibgaa.PX
/- Paths at which two trees differ: the program's and the reference's come to one row. -/
set_option linter.unusedVariables false
namespace Go.Proofs.Ytbhgocpenbibgaa.PX
open Go.RowKit Go.Proofs.YtbhgocpenbibgaaW.PrintWords Go.Proofs.YtbhgocpenbibgaaW.PrintLast Go.Proofs.YtbhgocpenbibgaaW.PrintMore Go.Proofs.Ytbhgocpenbibgaa
def getR : Tr → List ByteArray → Tr × Bool
  | t, [] => (t, true)
  | t, n :: p => match kid t n with
    | some x => getR x p
    | none => ([], false)
theorem Ok.kidle {W d : Nat} {t x : Tr} {n : ByteArray} (h : Ok W d t) (hk : PX.kid t n = some x) : Ok W d x := by
  cases d with
  | zero => rw [show t = [] from h] at hk; cases hk
  | succ d => exact (h.kid hk).succ
theorem find_eq {W d : Nat} (hW : W ≤ 1000000) {t : Tr} (n : ByteArray) (h : Ok W d t) : tree_find.f t n = some (((pos t n : Nat) : Int), hasAt t n) := by
  unfold tree_find.f
  have := h.length
  rw [if_pos ⟨by omega, h.sorted⟩]
theorem get_ev {W : Nat} (hW : W ≤ 1000000) {d : Nat} {t : Tr} (p : List ByteArray) (ht : Ok W d t) (hp : p.length ≤ 1000000) : Ev (fun k => tree_Get.f k t p) (getR t p) := by
  have loop : ∀ (m i : Nat) (t : Tr), i + m = p.length → Ok W d t → Ev (fun k => tree_Get.l0 k t p (p.length : Int) (i : Int)) (getR t (p.drop i)) := by
    intro m
    induction m with
    | zero =>
      intro i t hi ht
      rw [List.drop_eq_nil_of_le (by omega)]
      obtain ⟨K, hK⟩ := own_ev hW ht
      refine ⟨K + 1, fun k hk => ?_⟩
      obtain ⟨k, rfl⟩ : ∃ m, k = m + 1 := ⟨k - 1, by omega⟩
      replace hK : tree_own.f k t = some t := hK k (by omega)
      show tree_Get.l0 (k + 1) t p (p.length : Int) (i : Int) = _
      simp only [tree_Get.l0]
      rw [if_neg (by omega), hK, Option.bind_some]
      rfl
    | succ m ih =>
      intro i t hi ht
      have hil : i < p.length := by omega
      rw [List.drop_eq_getElem_cons hil]
      have hf := find_eq hW p[i] ht
      cases e : kid t p[i] with
      | none =>
        have hh : hasAt t p[i] = false := by rw [hasAt_kid, e]; rfl
        refine Ev.step (f := fun _ => some ([], false)) (fun k => ?_) (by rw [getR, e]; exact Ev.now _)
        simp only [tree_Get.l0]
        rw [if_pos (by omega), if_pos (by omega), if_pos (by omega), rdOf_nat hil, hf, Option.bind_some, hh, if_neg Bool.false_ne_true]
      | some x =>
        have hh : hasAt t p[i] = true := by rw [hasAt_kid, e]; rfl
        obtain ⟨h1, _, h3⟩ := kid_pos t p[i] x e
        refine Ev.step (f := fun k => tree_Get.l0 k x p (p.length : Int) ((i + 1 : Nat) : Int)) (fun k => ?_) (by rw [getR, e]; exact ih (i + 1) x (by omega) (ht.kidle e))
        simp only [tree_Get.l0]
        rw [if_pos (by omega), if_pos (by omega), if_pos (by omega), rdOf_nat hil, hf, Option.bind_some, hh, if_pos rfl, if_pos (by omega), if_pos (by omega), rdT_nat h1, h3, wrap_succ (by omega)]
  exact loop p.length 0 t (by omega) ht
theorem getR_one (t : Tr) (n : ByteArray) : getR t [n] = ((kid t n).getD [], (kid t n).isSome) := by
  rw [getR]
  cases kid t n <;> rfl
/-! ### The row of paths -/
def stepP (rec : Tr → Tr → List (List ByteArray)) (a b : Tr) (n : ByteArray) : List (List ByteArray) :=
  match kid a n, kid b n with
  | some x, some y => (rec x y).map (n :: ·)
  | _, _ => [[n]]
def pathsM : Nat → Tr → Tr → List (List ByteArray)
  | 0, _, _ => []
  | d + 1, a, b => (namesOf [a, b]).flatMap (stepP (pathsM d) a b)
theorem names2_length {W d : Nat} {a b : Tr} (ha : Ok W d a) (hb : Ok W d b) : ([a, b].flatMap nms).length ≤ 2 * W := by
  have h1 := ha.length
  have h2 := hb.length
  simp [nms]
  omega
theorem stepP_length {W d : Nat} (hW : 0 < W) (ih : ∀ a b, Ok W d a → Ok W d b → (pathsM d a b).length ≤ (2 * W) ^ d) {a b : Tr} (ha : Ok W (d + 1) a) (hb : Ok W (d + 1) b) (n : ByteArray) : (stepP (pathsM d) a b n).length ≤ (2 * W) ^ d := by
  have h1 : 1 ≤ (2 * W) ^ d := Nat.one_le_pow _ _ (by omega)
  unfold stepP
  split
  · rename_i x y hx hy
    rw [List.length_map]
    exact ih x y (ha.kid hx) (hb.kid hy)
  · simpa using h1
theorem flatMap_length_le {α β : Type} (f : α → List β) (B : Nat) : ∀ l : List α, (∀ x ∈ l, (f x).length ≤ B) → (l.flatMap f).length ≤ l.length * B
  | [], _ => by simp
  | x :: l, h => by
    have h1 := h x List.mem_cons_self
    have h2 := flatMap_length_le f B l (fun y hy => h y (List.mem_cons_of_mem _ hy))
    rw [List.flatMap_cons, List.length_append, List.length_cons, Nat.add_mul]
    omega
theorem pathsM_length {W : Nat} (hW : 0 < W) : ∀ {d : Nat} (a b : Tr), Ok W d a → Ok W d b → (pathsM d a b).length ≤ (2 * W) ^ d
  | 0, _, _, _, _ => by simp [pathsM]
  | d + 1, a, b, ha, hb => by
    have h1 := flatMap_length_le (stepP (pathsM d) a b) ((2 * W) ^ d) (namesOf [a, b]) (fun n _ => stepP_length hW (fun a b => pathsM_length hW a b) ha hb n)
    have h2 := namesOf_length [a, b]
    have h3 := names2_length ha hb
    rw [pathsM, Nat.pow_succ, Nat.mul_comm ((2 * W) ^ d)]
    exact Nat.le_trans h1 (Nat.mul_le_mul_right _ (by omega))
theorem mem_namesOf {ts : List Tr} {n : ByteArray} : n ∈ namesOf ts ↔ ∃ t ∈ ts, tl n ∈ nms t := by
  unfold namesOf
  rw [List.mem_map]
  constructor
  · rintro ⟨s, hs, rfl⟩
    rw [tl_ba]
    exact List.mem_flatMap.1 (ofL_mem.1 hs)
  · intro h
    exact ⟨tl n, ofL_mem.2 (List.mem_flatMap.2 h), ba_tl n⟩
theorem mem_nms {t : Tr} (ht : Sorted t) {n : ByteArray} : tl n ∈ nms t ↔ (kid t n).isSome = true := by
  unfold nms
  rw [List.mem_map]
  constructor
  · rintro ⟨x, hx, h⟩
    have h1 := kid_mem ht hx
    rw [tl_inj h] at h1
    rw [h1]
    rfl
  · intro h
    obtain ⟨x, hx⟩ := Option.isSome_iff_exists.1 h
    exact ⟨_, mem_kid hx, rfl⟩
theorem mem_names2 {a b : Tr} (ha : Sorted a) (hb : Sorted b) {n : ByteArray} : n ∈ namesOf [a, b] ↔ (kid a n).isSome = true ∨ (kid b n).isSome = true := by
  rw [mem_namesOf, ← mem_nms ha, ← mem_nms hb]
  simp
theorem take_flat {α : Type} (f : ByteArray → List α) (l : List ByteArray) (i : Nat) (h : i < l.length) : (l.take (i + 1)).flatMap f = (l.take i).flatMap f ++ f l[i] := by
  rw [List.take_succ_eq_append_getElem h, List.flatMap_append]
  simp
theorem take_flat_le {α : Type} (f : ByteArray → List α) (l : List ByteArray) (i : Nat) : ((l.take i).flatMap f).length ≤ (l.flatMap f).length := by
  have : l.flatMap f = (l.take i).flatMap f ++ (l.drop i).flatMap f := by rw [← List.flatMap_append, List.take_append_drop]
  rw [this, List.length_append]
  omega
/-- How long the paths of two trees so deep are. -/
theorem pathsM_deep : ∀ {d : Nat} (a b : Tr) {p : List ByteArray}, p ∈ pathsM d a b → p.length ≤ d
  | 0, _, _, p, h => by simp [pathsM] at h
  | d + 1, a, b, p, h => by
    rw [pathsM, List.mem_flatMap] at h
    obtain ⟨n, _, h⟩ := h
    unfold stepP at h
    split at h
    · obtain ⟨q, hq, rfl⟩ := List.mem_map.1 h
      have := pathsM_deep _ _ hq
      simpa using this
    · obtain rfl := List.mem_singleton.1 h
      simp
theorem paths_ev {W : Nat} (hW : W ≤ 400000) (hW0 : 0 < W) : ∀ {d : Nat} {a b : Tr}, d ≤ 1000 → (2 * W) ^ d ≤ 1000000000000 → Ok W d a → Ok W d b → Ev (fun k => diff_Paths.f k a b) (pathsM d a b) := by
  intro d
  induction d with
  | zero =>
    intro a b _ _ ha hb
    obtain ⟨K, hK⟩ := treeNames_ev [a, b] (by simp) (by rw [show a = [] from ha, show b = [] from hb]; simp [nms])
    rw [show a = [] from ha, show b = [] from hb] at hK ⊢
    have hn : namesOf [([] : Tr), []] = [] := by
      have := namesOf_length [([] : Tr), []]
      exact List.eq_nil_of_length_eq_zero (by simpa [nms] using this)
    obtain ⟨K2, hK2⟩ := joined29_ev [([] : List (List ByteArray))] (by simp) (by simp)
    refine ⟨K + K2 + 2, fun k hk => ?_⟩
    obtain ⟨k, rfl⟩ : ∃ m, k = m + 2 := ⟨k - 2, by omega⟩
    show diff_Paths.f (k + 1 + 1) [] [] = some []
    simp only [diff_Paths.f]
    have h1 : tree_Names.f (k + 1) [([] : Tr), []] = some (namesOf [([] : Tr), []]) := hK (k + 1) (by omega)
    have h2 : diff_joined_string_29.f k [([] : List (List ByteArray))] = some [([] : List (List ByteArray))].flatten := hK2 k (by omega)
    rw [h1, Option.bind_some, hn]
    simp only [diff_Paths.l0]
    rw [if_neg (by simp), h2, Option.bind_some]
    rfl
  | succ d ih =>
    intro a b hd hB ha hb
    have hBd : (2 * W) ^ d ≤ 1000000000000 := Nat.le_trans (Nat.pow_le_pow_right (by omega) (by omega)) hB
    have hn2 := names2_length ha hb
    have hnm := treeNames_ev [a, b] (by simp) (by omega)
    have hlen := pathsM_length hW0 (d := d + 1) a b ha hb
    have hnl := namesOf_length [a, b]
    have hstep := fun n => stepP_length hW0 (fun a b => pathsM_length hW0 a b) ha hb n
    have hmem := fun n (h : n ∈ namesOf [a, b]) => (mem_names2 ha.sorted hb.sorted).1 h
    rw [pathsM] at hlen ⊢
    refine Ev.step (f := fun k => (tree_Names.f k [a, b]).bind fun t => diff_Paths.l0 k a b [] t (t.length : Int) 0) (fun k => by simp only [diff_Paths.f]) (Ev.bind hnm ?_)
    generalize namesOf [a, b] = N at hlen hnl hmem ⊢
    generalize hS : stepP (pathsM d) a b = S at hlen hstep ⊢
    have inner : ∀ (i : Nat) (hi : i < N.length) (q : List (List ByteArray)), S N[i] = q.map (N[i] :: ·) → q.length ≤ 1000000000000 → (∀ p ∈ q, p.length ≤ 1000) → Ev (fun k => diff_Paths.l0 k a b ((N.take (i + 1)).flatMap S) N (N.length : Int) ((i + 1 : Nat) : Int)) (N.flatMap S) →
        ∀ (m j : Nat), j + m = q.length → Ev (fun k => diff_Paths.l1 k a b ((N.take i).flatMap S ++ (q.take j).map (N[i] :: ·)) N[i] N (N.length : Int) (i : Int) q (q.length : Int) (j : Int)) (N.flatMap S) := by
      intro i hi q hq hql hqp h0 m
      have hle := take_flat_le S N (i + 1)
      have hnx := take_flat S N i hi
      rw [hnx, List.length_append, hq, List.length_map] at hle
      induction m with
      | zero =>
        intro j hj
        refine Ev.step (f := fun k => diff_Paths.l0 k a b ((N.take (i + 1)).flatMap S) N (N.length : Int) ((i + 1 : Nat) : Int)) (fun k => ?_) h0
        simp only [diff_Paths.l1]
        rw [if_neg (by omega), wrap_succ (by omega), List.take_of_length_le (l := q) (by omega), hnx, hq]
      | succ m ihm =>
        intro j hj
        have hjl : j < q.length := by omega
        have hqj := hqp q[j] (List.getElem_mem hjl)
        refine Ev.step (f := fun k => (diff_joined_string_28.f k [[N[i]], q[j]]).bind fun t => diff_Paths.l1 k a b ((N.take i).flatMap S ++ (q.take j).map (N[i] :: ·) ++ [t]) N[i] N (N.length : Int) (i : Int) q (q.length : Int) ((j + 1 : Nat) : Int)) (fun k => ?_) (Ev.bind (joined28_ev [[N[i]], q[j]] (by simp; omega) (by simp)) ?_)
        · simp only [diff_Paths.l1]
          rw [if_pos (by omega), if_pos (by omega), if_pos (by omega), rdL_s hjl, wrap_succ (by omega)]
          congr 1
          funext t
          rw [if_pos (by rw [List.length_append, List.length_map, List.length_take]; omega)]
        · have := ihm (j + 1) (by omega)
          rw [List.take_succ_eq_append_getElem hjl, List.map_append, ← List.append_assoc] at this
          simpa using this
    have outer : ∀ (m i : Nat), i + m = N.length → Ev (fun k => diff_Paths.l0 k a b ((N.take i).flatMap S) N (N.length : Int) (i : Int)) (N.flatMap S) := by
      intro m
      induction m with
      | zero =>
        intro i hi
        rw [List.take_of_length_le (by omega)]
        obtain ⟨K, hK⟩ := joined29_ev [N.flatMap S] (by simp only [List.flatten_cons, List.flatten_nil, List.append_nil]; omega) (by simp)
        refine ⟨K + 1, fun k hk => ?_⟩
        obtain ⟨k, rfl⟩ : ∃ m, k = m + 1 := ⟨k - 1, by omega⟩
        replace hK : diff_joined_string_29.f k [N.flatMap S] = some [N.flatMap S].flatten := hK k (by omega)
        show diff_Paths.l0 (k + 1) a b (N.flatMap S) N (N.length : Int) (i : Int) = some (N.flatMap S)
        simp only [diff_Paths.l0]
        rw [if_neg (by omega), hK, Option.bind_some]
        simp
      | succ m ihm =>
        intro i hi
        have hil : i < N.length := by omega
        have hle := take_flat_le S N i
        have h0 := ihm (i + 1) (by omega)
        have ga := get_ev (by omega) [N[i]] ha (by simp)
        have gb := get_ev (by omega) [N[i]] hb (by simp)
        rw [getR_one] at ga gb
        refine Ev.step (f := fun k => (tree_Get.f k a [N[i]]).bind fun u => (tree_Get.f k b [N[i]]).bind fun v => if u.2 = true then diff_Paths.j1 k a b ((N.take i).flatMap S) N[i] u.1 v.1 N (N.length : Int) (i : Int) (!v.2) else diff_Paths.j1 k a b ((N.take i).flatMap S) N[i] u.1 v.1 N (N.length : Int) (i : Int) true) (fun k => ?_) (Ev.bind ga (Ev.bind gb ?_))
        · simp only [diff_Paths.l0]
          rw [if_pos (by omega), if_pos (by omega), if_pos (by omega), rdOf_nat hil]
        · have one : ∀ (c : Bool) (x y : Tr), S N[i] = [[N[i]]] → c = true → Ev (fun k => diff_Paths.j1 k a b ((N.take i).flatMap S) N[i] x y N (N.length : Int) (i : Int) c) (N.flatMap S) := by
            intro c x y hS1 hc
            subst hc
            have hnx := take_flat S N i hil
            rw [hS1] at hnx
            rw [hnx] at h0
            refine Ev.step (f := fun k => diff_Paths.l0 k a b ((N.take i).flatMap S ++ [[N[i]]]) N (N.length : Int) ((i + 1 : Nat) : Int)) (fun k => ?_) h0
            simp only [diff_Paths.j1]
            rw [if_pos trivial, if_pos (by omega), wrap_succ (by omega)]
          cases ea : kid a N[i] with
          | none =>
            have hS1 : S N[i] = [[N[i]]] := by rw [← hS]; unfold stepP; rw [ea]
            simp only [Option.isSome_none, Bool.false_eq_true, if_false]
            exact one _ _ _ hS1 rfl
          | some x =>
            simp only [Option.isSome_some, if_true, Option.getD_some]
            cases eb : kid b N[i] with
            | none =>
              have hS1 : S N[i] = [[N[i]]] := by rw [← hS]; unfold stepP; rw [ea, eb]
              exact one _ _ _ hS1 rfl
            | some y =>
              have hS2 : S N[i] = (pathsM d x y).map (N[i] :: ·) := by rw [← hS]; unfold stepP; rw [ea, eb]
              have hx := ha.kid ea
              have hy := hb.kid eb
              have hpl := pathsM_length hW0 x y hx hy
              simp only [Option.isSome_some, Option.getD_some, Bool.not_true]
              refine Ev.step (f := fun k => (diff_Paths.f k x y).bind fun t => diff_Paths.l1 k a b ((N.take i).flatMap S) N[i] N (N.length : Int) (i : Int) t (t.length : Int) 0) (fun k => ?_) (Ev.bind (ih (by omega) hBd hx hy) ?_)
              · simp only [diff_Paths.j1]
                rw [if_neg Bool.false_ne_true]
              · have := inner i hil (pathsM d x y) hS2 (by omega) (fun p hp => by have := pathsM_deep _ _ hp; omega) h0 (pathsM d x y).length 0 (by omega)
                simpa using this
    have := outer N.length 0 (by omega)
    simpa using this
theorem refPaths_ev {W : Nat} (hW : W ≤ 400000) (hW0 : 0 < W) : ∀ {d : Nat} {a b : Tr}, d ≤ 1000 → (2 * W) ^ d ≤ 1000000000000 → Ok W d a → Ok W d b → Ev (fun k => cadenceref13_Paths.f k a b) (pathsM d a b) := by
  intro d
  induction d with
  | zero =>
    intro a b _ _ ha hb
    obtain ⟨K, hK⟩ := refNames_ev [a, b] (by simp) (by rw [show a = [] from ha, show b = [] from hb]; simp [nms])
    rw [show a = [] from ha, show b = [] from hb] at hK ⊢
    have hn : namesOf [([] : Tr), []] = [] := by
      have := namesOf_length [([] : Tr), []]
      exact List.eq_nil_of_length_eq_zero (by simpa [nms] using this)
    refine ⟨K + 2, fun k hk => ?_⟩
    obtain ⟨k, rfl⟩ : ∃ m, k = m + 2 := ⟨k - 2, by omega⟩
    show cadenceref13_Paths.f (k + 1 + 1) [] [] = some []
    simp only [cadenceref13_Paths.f]
    have h1 : cadenceref2_Names.f (k + 1) [([] : Tr), []] = some (namesOf [([] : Tr), []]) := hK (k + 1) (by omega)
    rw [h1, Option.bind_some, hn]
    simp only [cadenceref13_Paths.l0]
    rw [if_neg (by simp)]
  | succ d ih =>
    intro a b hd hB ha hb
    have hBd : (2 * W) ^ d ≤ 1000000000000 := Nat.le_trans (Nat.pow_le_pow_right (by omega) (by omega)) hB
    have hn2 := names2_length ha hb
    have hnm := refNames_ev [a, b] (by simp) (by omega)
    have hlen := pathsM_length hW0 (d := d + 1) a b ha hb
    have hnl := namesOf_length [a, b]
    have hmem := fun n (h : n ∈ namesOf [a, b]) => (mem_names2 ha.sorted hb.sorted).1 h
    have hal := ha.length
    have hbl := hb.length
    rw [pathsM] at hlen ⊢
    refine Ev.step (f := fun k => (cadenceref2_Names.f k [a, b]).bind fun t => cadenceref13_Paths.l0 k a b [] t 0) (fun k => by simp only [cadenceref13_Paths.f]) (Ev.bind hnm ?_)
    generalize namesOf [a, b] = N at hlen hnl hmem ⊢
    generalize hS : stepP (pathsM d) a b = S at hlen ⊢
    have inner : ∀ (i : Nat) (hi : i < N.length) (q : List (List ByteArray)), S N[i] = q.map (N[i] :: ·) → q.length ≤ 1000000000000 → (∀ p ∈ q, p.length ≤ 1000) → Ev (fun k => cadenceref13_Paths.l0 k a b ((N.take (i + 1)).flatMap S) N ((i + 1 : Nat) : Int)) (N.flatMap S) →
        ∀ (m j : Nat), j + m = q.length → Ev (fun k => cadenceref13_Paths.l1 k a b ((N.take i).flatMap S ++ (q.take j).map (N[i] :: ·)) N (i : Int) q (j : Int)) (N.flatMap S) := by
      intro i hi q hq hql hqp h0 m
      have hle := take_flat_le S N (i + 1)
      have hnx := take_flat S N i hi
      rw [hnx, List.length_append, hq, List.length_map] at hle
      induction m with
      | zero =>
        intro j hj
        refine Ev.step (f := fun k => cadenceref13_Paths.l0 k a b ((N.take (i + 1)).flatMap S) N ((i + 1 : Nat) : Int)) (fun k => ?_) h0
        simp only [cadenceref13_Paths.l1]
        rw [if_neg (by omega), wrap_succ (by omega), List.take_of_length_le (l := q) (by omega), hnx, hq]
      | succ m ihm =>
        intro j hj
        have hjl : j < q.length := by omega
        have hqj := hqp q[j] (List.getElem_mem hjl)
        refine Ev.step (f := fun k => cadenceref13_Paths.l1 k a b ((N.take i).flatMap S ++ (q.take (j + 1)).map (N[i] :: ·)) N (i : Int) q ((j + 1 : Nat) : Int)) (fun k => ?_) (ihm (j + 1) (by omega))
        simp only [cadenceref13_Paths.l1]
        rw [if_pos (by omega), if_pos (by omega), if_pos (by omega), rdOf_nat hi, Option.bind_some, if_pos (by omega), rdL_s hjl, if_pos (by simp; omega), if_pos (by rw [List.length_append, List.length_map, List.length_take]; omega), wrap_succ (by omega), List.take_succ_eq_append_getElem hjl, List.map_append, ← List.append_assoc]
        rfl
    have outer : ∀ (m i : Nat), i + m = N.length → Ev (fun k => cadenceref13_Paths.l0 k a b ((N.take i).flatMap S) N (i : Int)) (N.flatMap S) := by
      intro m
      induction m with
      | zero =>
        intro i hi
        refine Ev.step (f := fun _ => some (N.flatMap S)) (fun k => ?_) (Ev.now _)
        simp only [cadenceref13_Paths.l0]
        rw [if_neg (by omega), List.take_of_length_le (by omega)]
      | succ m ihm =>
        intro i hi
        have hil : i < N.length := by omega
        have hle := take_flat_le S N i
        have h0 := ihm (i + 1) (by omega)
        have ga := kid_ev a N[i] (by omega)
        have gb := kid_ev b N[i] (by omega)
        refine Ev.step (f := fun k => (cadenceref2_Kid.f k a N[i]).bind fun u => (cadenceref2_Kid.f k b N[i]).bind fun v => if (u.2 != v.2) = true then (if ((N.take i).flatMap S).length < 5864062014805 then cadenceref13_Paths.l0 k a b ((N.take i).flatMap S ++ [[N[i]]]) N ((i + 1 : Nat) : Int) else none) else (cadenceref13_Paths.f k u.1 v.1).bind fun t => cadenceref13_Paths.l1 k a b ((N.take i).flatMap S) N (i : Int) t 0) (fun k => ?_) (Ev.bind ga (Ev.bind gb ?_))
        · simp only [cadenceref13_Paths.l0]
          rw [if_pos (by omega), if_pos (by omega), rdOf_nat hil, wrap_succ (by omega)]
        · have one : S N[i] = [[N[i]]] → Ev (fun k => if ((N.take i).flatMap S).length < 5864062014805 then cadenceref13_Paths.l0 k a b ((N.take i).flatMap S ++ [[N[i]]]) N ((i + 1 : Nat) : Int) else none) (N.flatMap S) := by
            intro hS1
            have hnx := take_flat S N i hil
            rw [hS1] at hnx
            rw [hnx] at h0
            refine Ev.congr (fun k => ?_) h0
            rw [if_pos (by omega)]
          cases ea : kid a N[i] with
          | none =>
            cases eb : kid b N[i] with
            | none =>
              have := hmem _ (List.getElem_mem hil)
              rw [ea, eb] at this
              simp at this
            | some y =>
              have hS1 : S N[i] = [[N[i]]] := by rw [← hS]; unfold stepP; rw [ea]
              exact Ev.congr (fun k => by rw [if_pos (by rfl)]) (one hS1)
          | some x =>
            cases eb : kid b N[i] with
            | none =>
              have hS1 : S N[i] = [[N[i]]] := by rw [← hS]; unfold stepP; rw [ea, eb]
              exact Ev.congr (fun k => by rw [if_pos (by rfl)]) (one hS1)
            | some y =>
              have hS2 : S N[i] = (pathsM d x y).map (N[i] :: ·) := by rw [← hS]; unfold stepP; rw [ea, eb]
              have hx := ha.kid ea
              have hy := hb.kid eb
              have hpl := pathsM_length hW0 x y hx hy
              refine Ev.congr (f := fun k => (cadenceref13_Paths.f k x y).bind fun t => cadenceref13_Paths.l1 k a b ((N.take i).flatMap S) N (i : Int) t 0) (fun k => by rw [if_neg (by simp)]; rfl) (Ev.bind (ih (by omega) hBd hx hy) ?_)
              have := inner i hil (pathsM d x y) hS2 (by omega) (fun p hp => by have := pathsM_deep _ _ hp; omega) h0 (pathsM d x y).length 0 (by omega)
              simpa using this
    have := outer N.length 0 (by omega)
    simpa using this
theorem namesOf_swap (a b : Tr) : namesOf [a, b] = namesOf [b, a] := by
  unfold namesOf
  congr 1
  refine ofL_eq.2 fun s => ?_
  simp only [List.flatMap_cons, List.flatMap_nil, List.append_nil, List.mem_append]
  exact Or.comm
theorem pathsM_swap : ∀ {d : Nat} (a b : Tr), pathsM d a b = pathsM d b a
  | 0, _, _ => rfl
  | d + 1, a, b => by
    rw [pathsM, pathsM, namesOf_swap]
    congr 1
    funext n
    unfold stepP
    cases kid a n <;> cases kid b n <;> simp [pathsM_swap]
end Go.Proofs.Ytbhgocpenbibgaa.PX
-- written by wip/tools/hybrid.py (over the kit's print.py, with functions proved by hand beside it) for this claim
namespace Go.Proofs.Ytbhgocpenbibgaa.PX
open Go.RowKit Go.Proofs.YtbhgocpenbibgaaW.PrintWords Go.Proofs.YtbhgocpenbibgaaW.PrintLast Go.Proofs.YtbhgocpenbibgaaW.PrintMore
attribute [local go_sem] max2_int min2_int max_two min_two max_three min_three max_four min_four   -- for this text's walks alone
set_option linter.unusedVariables false
set_option linter.unusedSimpArgs false

/-! ### cadencelaw13_known: function 8 -/
def cadencelaw13_known.f (k : Nat)  : Option (Bool) := (diff_Paths.f k ([] : List (S45)) (([(⟨(⟨#[118]⟩ : ByteArray), ([] : List (S45))⟩ : S45)] : List (S45)))).bind fun t222 => (if (t222.length : Int) = 1 then (if 0 < (t222.length : Int) then (if ((rd_L1 t222 0).length : Int) = 1 then (if 0 < ((rd_L1 t222 0).length : Int) then (some ((rdOf ByteArray.empty (rd_L1 t222 0) 0).toList == ([118] : List UInt8))) else (none)) else (some false)) else (none)) else (some false))
theorem cadencelaw13_known.mono : ∀ k, LeO (cadencelaw13_known.f k ) (cadencelaw13_known.f (k + 1) ) := by
  intro  k
  unfold cadencelaw13_known.f
  repeat' first
      | (with_reducible exact diff_Paths.mono _ _ _)
      | (with_reducible exact LeO.refl _)
      | (with_reducible exact LeO.none _)
      | (with_reducible refine LeO.ite ?_ ?_)
      | (with_reducible refine LeO.bind ?_ (fun _ => ?_))
      | exact diff_Paths.mono _ _ _
      | exact LeO.none _
      | refine LeO.ite ?_ ?_
      | refine LeO.bind ?_ (fun _ => ?_)
set_option maxHeartbeats 8000000 in
set_option maxRecDepth 100000 in
theorem cadencelaw13_known.calls (k : Nat)  (r : Bool) (w : World) (h : cadencelaw13_known.f k  = some r) :
    Calls Try.prog 8 #[] w fun e w' => e = .returned (.bool r) ∧ Below w.heap.size w w' := by
  have hu45 := Try.underlying45
  have HB := Aside0.mk (Below.refl w.heap.size w)
  have H : ((diff_Paths.f k ([] : List (S45)) (([(⟨(⟨#[118]⟩ : ByteArray), ([] : List (S45))⟩ : S45)] : List (S45)))).bind fun t222 => (if (t222.length : Int) = 1 then (if 0 < (t222.length : Int) then (if ((rd_L1 t222 0).length : Int) = 1 then (if 0 < ((rd_L1 t222 0).length : Int) then (some ((rdOf ByteArray.empty (rd_L1 t222 0) 0).toList == ([118] : List UInt8))) else (none)) else (some false)) else (none)) else (some false))) = some r := h
  clear h
  obtain ⟨y219, hy219⟩ : ∃ y_ : List (S45), y_ = (([(⟨(⟨#[118]⟩ : ByteArray), ([] : List (S45))⟩ : S45)] : List (S45))) := ⟨_, rfl⟩
  replace H : ((diff_Paths.f k ([] : List (S45)) y219).bind fun t222 => (if (t222.length : Int) = 1 then (if 0 < (t222.length : Int) then (if ((rd_L1 t222 0).length : Int) = 1 then (if 0 < ((rd_L1 t222 0).length : Int) then (some ((rdOf ByteArray.empty (rd_L1 t222 0) 0).toList == ([118] : List UInt8))) else (none)) else (some false)) else (none)) else (some false))) = some r := by first | (rw [hy219]; with_reducible exact H) | (have H2_ := (Option.bind_some _ _).symm.trans H; rw [hy219]; with_reducible exact H2_) | (have H2_ := (Option.bind_some _ _).symm.trans H; with_reducible exact H2_) | with_reducible exact H | (rw [hy219]; exact H) | exact H
  have Ny219 := Aside0.mk hy219
  clear hy219
  replace H := Option.bind_eq_some_iff.mp H
  obtain ⟨t222, A10, H⟩ := H
  replace H : (if (t222.length : Int) = 1 then (if 0 < (t222.length : Int) then (if ((rd_L1 t222 0).length : Int) = 1 then (if 0 < ((rd_L1 t222 0).length : Int) then (some ((rdOf ByteArray.empty (rd_L1 t222 0) 0).toList == ([118] : List UInt8))) else (none)) else (some false)) else (none)) else (some false)) = some r := H
  have A1 := Aside0.mk A10
  clear A10
  by_cases c2 : (t222.length : Int) = 1
  · rw [if_pos c2] at H
    have c2b0 : ((t222.length : Int) == 1) = true := beq_iff_eq.mpr c2
    have c2b1 : ((t222.length : Int) != 1) = false := bne_eq_false_iff_eq.mpr c2
    clear c2
    by_cases c3 : 0 < (t222.length : Int)
    · rw [if_pos c3] at H
      have c3b0 : decide (0 < (t222.length : Int)) = true := decide_eq_true c3
      have c3b1 : decide (0 < t222.length) = true := decide_eq_true (by omega)
      clear c3
      by_cases c4 : ((rd_L1 t222 0).length : Int) = 1
      · rw [if_pos c4] at H
        have c4b0 : (((rd_L1 t222 0).length : Int) == 1) = true := beq_iff_eq.mpr c4
        have c4b1 : (((rd_L1 t222 0).length : Int) != 1) = false := bne_eq_false_iff_eq.mpr c4
        clear c4
        by_cases c5 : 0 < ((rd_L1 t222 0).length : Int)
        · rw [if_pos c5] at H
          have c5b0 : decide (0 < ((rd_L1 t222 0).length : Int)) = true := decide_eq_true c5
          have c5b1 : decide (0 < (rd_L1 t222 0).length) = true := decide_eq_true (by omega)
          clear c5
          obtain rfl := Option.some.inj H
          go_enter Try.func8, Try.ntmps8
          go_wp2_with (first | ((with_reducible refine gate_dst (N := 3) rfl ?_); (try (refine gate_guard (by rfl) ?_; dsimp only)); refine Kd.N_lit k45 _ 45 ?hg (N' := 3) ?hd (xs := ([(⟨(⟨#[118]⟩ : ByteArray), ([] : List (S45))⟩ : S45)] : List (S45))) (inner := [.string (⟨#[118]⟩ : ByteArray), .slice none 0 0]) (ok := (fun _ => True)) (okp := (fun _ => True)) ?hr ?hp (fun _ hk => hk) ((show ∀ k_, w.heap.size ≤ k_ → (fun _ => True) k_ from fun k_ hk => trivial) _ (Nat.le_refl _)) (Below.refl _ _) (Nat.le_refl _) (by simp) ?_; (case hd => rfl); (case hg => rfl); (case hr => first | (go_simp; done) | (go_simp; rfl)); (case hp => exact (Reps.c2 (show Kd.FK k45 _ _ (⟨(⟨#[118]⟩ : ByteArray), ([] : List (S45))⟩ : S45) [.string (⟨#[118]⟩ : ByteArray), .slice none 0 0] from (k45_mkF _ _ (⟨(⟨#[118]⟩ : ByteArray), ([] : List (S45))⟩ : S45) (Nat.le_refl _) (Kd.F_nil _ _ _))) (Reps.none _ _))); intro v220 w6 ho7 hb hg_ hnew_; clear hg_ hnew_; (first | rw [← Ny219.out] at ho7 | (simp only [Int.reduceToNat] at ho7; rw [← Ny219.out] at ho7)); have n0_ := Aside0.mk (Kd.N_lower ho7 (below_size (by repeat (first | (with_reducible first | exact HB.out | apply bA_ | apply bN_ | apply bD_) | exact HB.out)))); have n1_ := Aside0.mk (below_step (by repeat (first | (with_reducible first | exact HB.out | apply bA_ | apply bN_ | apply bD_) | exact HB.out)) hb); clear HB; have HO221 := n0_; have HB := n1_; clear n0_ n1_; clear hb ho7; obtain ⟨Ao8, co8, eo8⟩ := Kd.N_slice HO221.out; subst eo8) | ((with_reducible refine gate_callee (f := 11) rfl ?_); refine goesL_ (some 4) rfl rfl Try.func11 (by kernel_rfl) rfl #[.slice none 0 0, .slice Ao8 y219.length co8] rfl (by (try simp only [List.map_toArray, List.map_cons, List.map_nil]); first | done | rfl | (simp only [List.length_drop, List.length_take]; rfl)) ?_; (refine (diff_Paths.calls k (fun k_ => False) _ _ ([] : List (S45)) (fun k_ => True) _ _ y219 t222 _ ?side1 ?side2 A1.out).mono ?_); (case side1 => exact Kd.V_nil _ _ _ _ _); (case side2 => exact Kd.N_V (HO221.out)); rintro e w9 ⟨v223, rfl, ho0, hb⟩; refine ⟨_, rfl, ?_⟩; have n0_ := Aside0.mk (Kd.N_elder' (by (with_reducible repeat (first | apply nA_ | apply nN_ | apply nD_)); exact HO221.out) (Kd.N_base ho0) hb); have n1_ := Aside0.mk (Kd.N_lower (Kd.N_mono (ok' := fun k_ => True) ho0 (fun k_ hk_ => trivial)) (below_size (by repeat (first | (with_reducible first | exact HB.out | apply bA_ | apply bN_ | apply bD_) | exact HB.out)))); have n2_ := Aside0.mk (below_step (by repeat (first | (with_reducible first | exact HB.out | apply bA_ | apply bN_ | apply bD_) | exact HB.out)) hb); clear HO221; clear HB; have HO221 := n0_; have HO224 := n1_; have HB := n2_; clear n0_ n1_ n2_; (try clear hb); (try clear hb2); (try clear hk); (try clear hi); (try clear ho0); obtain ⟨Ao10, co10, eo10⟩ := Kd.N_slice HO224.out; subst eo10; have p225 : 0 ≤ (0 : Int) := (by omega); have q225 : 0 < (t222.length : Int) := of_decide_eq_true (by first | (with_reducible assumption) | assumption); obtain ⟨ad225, A225_0, c225_0, e225, hx225_0, hl225_0, hi225_0⟩ := at_L1 (Kd.N_reads' HO224.out).2.2 0 p225 q225; cases e225; obtain ⟨ce225, hce225, hMe225, hcc225⟩ := Kd.N_get HO224.out [] 0 p225 (by first | exact q225 | exact of_decide_eq_true (by first | (with_reducible assumption) | assumption) | (have e_ := (Kd.N_reads' HO224.out).1; omega)); obtain ⟨ua225_0, uc225_0, rfl, ul225_0, ge225_0⟩ := Kd.FK_slice_open hMe225; have hv225_0 := hcc225 0 _ rfl; rw [Nat.add_zero, show ((Kd.slice 9 Kd.string)).sz = 1 from rfl, Nat.mul_one] at hv225_0; replace hv225_0 := Option.some.inj (hv225_0.symm.trans hx225_0); injection hv225_0 with hva_ hvn_ hvc_; rw [hva_] at ge225_0; rw [hvc_] at ul225_0; have HL225_0 := Aside0.mk (show Kd.V Kd.string 9 _ w.heap.size _ _ (rd_L1 t222 0) from Kd.V_mk ul225_0 ge225_0); clear hva_ hvn_ hvc_ ge225_0 ul225_0; clear hcc225 hce225; have qi225 : (0 < t222.length) = True := eq_true (by omega); (try rw [show ((0 : Int)).toNat = 0 from rfl] at hx225_0); (try rw [Addr.add_zero'] at hx225_0); have HR225_0 := Aside0.mk hi225_0; have HC225_0 := Aside0.mk hl225_0; clear hi225_0 hl225_0; replace p225 := eq_true p225; replace q225 := eq_true q225; have p226 : 0 ≤ (0 : Int) := (by omega); have q226 : 0 < (t222.length : Int) := of_decide_eq_true (by first | (with_reducible assumption) | assumption); obtain ⟨ad226, A226_0, c226_0, e226, hx226_0, hl226_0, hi226_0⟩ := at_L1 (Kd.N_reads' HO224.out).2.2 0 p226 q226; obtain rfl : ad225 = ad226 := (by injection e226); obtain ⟨ce226, hce226, hMe226, hcc226⟩ := Kd.N_get HO224.out [] 0 p226 (by first | exact q226 | exact of_decide_eq_true (by first | (with_reducible assumption) | assumption) | (have e_ := (Kd.N_reads' HO224.out).1; omega)); obtain ⟨ua226_0, uc226_0, rfl, ul226_0, ge226_0⟩ := Kd.FK_slice_open hMe226; have hv226_0 := hcc226 0 _ rfl; rw [Nat.add_zero, show ((Kd.slice 9 Kd.string)).sz = 1 from rfl, Nat.mul_one] at hv226_0; replace hv226_0 := Option.some.inj (hv226_0.symm.trans hx226_0); injection hv226_0 with hva_ hvn_ hvc_; rw [hva_] at ge226_0; rw [hvc_] at ul226_0; have HL226_0 := Aside0.mk (show Kd.V Kd.string 9 _ w.heap.size _ _ (rd_L1 t222 0) from Kd.V_mk ul226_0 ge226_0); clear hva_ hvn_ hvc_ ge226_0 ul226_0; clear hcc226 hce226; have qi226 : (0 < t222.length) = True := eq_true (by omega); (try rw [show ((0 : Int)).toNat = 0 from rfl] at hx226_0); (try rw [Addr.add_zero'] at hx226_0); have HR226_0 := Aside0.mk hi226_0; have HC226_0 := Aside0.mk hl226_0; clear hi226_0 hl226_0; replace p226 := eq_true p226; replace q226 := eq_true q226; have ea_ := Option.some.inj (hx225_0.symm.trans hx226_0); injection ea_ with ea_ en_ ec_; subst ea_; subst ec_; clear en_; have p227 : 0 ≤ (0 : Int) := (by omega); have q227 : 0 < ((rd_L1 t222 0).length : Int) := of_decide_eq_true (by first | (with_reducible assumption) | assumption); obtain ⟨ad227, e227, hx227_0⟩ := Kd.at_string (by repeat (first | (with_reducible exact HR226_0.out) | (with_reducible refine cA_ ?_ _) | (with_reducible refine cN_ ?_ _) | (with_reducible refine cD_ ?_) | exact HR226_0.out)) 0 p227 q227; cases e227; have qi227 : (0 < (rd_L1 t222 0).length) = True := eq_true (by omega); (try rw [show ((0 : Int)).toNat = 0 from rfl] at hx227_0); (try rw [Addr.add_zero'] at hx227_0); replace p227 := eq_true p227; replace q227 := eq_true q227))
          go_ret
          exact ⟨by first | rfl | (simp [errW_none, errW_some] <;> rfl) | (simp [*, errW_none, errW_some] <;> rfl), by repeat (first | (with_reducible first | exact HB.out | apply bA_ | apply bN_ | apply bD_) | exact HB.out)⟩
        · rw [if_neg c5] at H
          exact absurd H (by simp)
      · rw [if_neg c4] at H
        have c4b0 : (((rd_L1 t222 0).length : Int) == 1) = false := beq_eq_false_iff_ne.mpr c4
        have c4b1 : (((rd_L1 t222 0).length : Int) != 1) = true := bne_iff_ne.mpr c4
        obtain rfl := Option.some.inj H
        go_enter Try.func8, Try.ntmps8
        go_wp2_with (first | ((with_reducible refine gate_dst (N := 3) rfl ?_); (try (refine gate_guard (by rfl) ?_; dsimp only)); refine Kd.N_lit k45 _ 45 ?hg (N' := 3) ?hd (xs := ([(⟨(⟨#[118]⟩ : ByteArray), ([] : List (S45))⟩ : S45)] : List (S45))) (inner := [.string (⟨#[118]⟩ : ByteArray), .slice none 0 0]) (ok := (fun _ => True)) (okp := (fun _ => True)) ?hr ?hp (fun _ hk => hk) ((show ∀ k_, w.heap.size ≤ k_ → (fun _ => True) k_ from fun k_ hk => trivial) _ (Nat.le_refl _)) (Below.refl _ _) (Nat.le_refl _) (by simp) ?_; (case hd => rfl); (case hg => rfl); (case hr => first | (go_simp; done) | (go_simp; rfl)); (case hp => exact (Reps.c2 (show Kd.FK k45 _ _ (⟨(⟨#[118]⟩ : ByteArray), ([] : List (S45))⟩ : S45) [.string (⟨#[118]⟩ : ByteArray), .slice none 0 0] from (k45_mkF _ _ (⟨(⟨#[118]⟩ : ByteArray), ([] : List (S45))⟩ : S45) (Nat.le_refl _) (Kd.F_nil _ _ _))) (Reps.none _ _))); intro v220 w11 ho12 hb hg_ hnew_; clear hg_ hnew_; (first | rw [← Ny219.out] at ho12 | (simp only [Int.reduceToNat] at ho12; rw [← Ny219.out] at ho12)); have n0_ := Aside0.mk (Kd.N_lower ho12 (below_size (by repeat (first | (with_reducible first | exact HB.out | apply bA_ | apply bN_ | apply bD_) | exact HB.out)))); have n1_ := Aside0.mk (below_step (by repeat (first | (with_reducible first | exact HB.out | apply bA_ | apply bN_ | apply bD_) | exact HB.out)) hb); clear HB; have HO221 := n0_; have HB := n1_; clear n0_ n1_; clear hb ho12; obtain ⟨Ao13, co13, eo13⟩ := Kd.N_slice HO221.out; subst eo13) | ((with_reducible refine gate_callee (f := 11) rfl ?_); refine goesL_ (some 4) rfl rfl Try.func11 (by kernel_rfl) rfl #[.slice none 0 0, .slice Ao13 y219.length co13] rfl (by (try simp only [List.map_toArray, List.map_cons, List.map_nil]); first | done | rfl | (simp only [List.length_drop, List.length_take]; rfl)) ?_; (refine (diff_Paths.calls k (fun k_ => False) _ _ ([] : List (S45)) (fun k_ => True) _ _ y219 t222 _ ?side1 ?side2 A1.out).mono ?_); (case side1 => exact Kd.V_nil _ _ _ _ _); (case side2 => exact Kd.N_V (HO221.out)); rintro e w14 ⟨v223, rfl, ho0, hb⟩; refine ⟨_, rfl, ?_⟩; have n0_ := Aside0.mk (Kd.N_elder' (by (with_reducible repeat (first | apply nA_ | apply nN_ | apply nD_)); exact HO221.out) (Kd.N_base ho0) hb); have n1_ := Aside0.mk (Kd.N_lower (Kd.N_mono (ok' := fun k_ => True) ho0 (fun k_ hk_ => trivial)) (below_size (by repeat (first | (with_reducible first | exact HB.out | apply bA_ | apply bN_ | apply bD_) | exact HB.out)))); have n2_ := Aside0.mk (below_step (by repeat (first | (with_reducible first | exact HB.out | apply bA_ | apply bN_ | apply bD_) | exact HB.out)) hb); clear HO221; clear HB; have HO221 := n0_; have HO224 := n1_; have HB := n2_; clear n0_ n1_ n2_; (try clear hb); (try clear hb2); (try clear hk); (try clear hi); (try clear ho0); obtain ⟨Ao15, co15, eo15⟩ := Kd.N_slice HO224.out; subst eo15; have p225 : 0 ≤ (0 : Int) := (by omega); have q225 : 0 < (t222.length : Int) := of_decide_eq_true (by first | (with_reducible assumption) | assumption); obtain ⟨ad225, A225_0, c225_0, e225, hx225_0, hl225_0, hi225_0⟩ := at_L1 (Kd.N_reads' HO224.out).2.2 0 p225 q225; cases e225; obtain ⟨ce225, hce225, hMe225, hcc225⟩ := Kd.N_get HO224.out [] 0 p225 (by first | exact q225 | exact of_decide_eq_true (by first | (with_reducible assumption) | assumption) | (have e_ := (Kd.N_reads' HO224.out).1; omega)); obtain ⟨ua225_0, uc225_0, rfl, ul225_0, ge225_0⟩ := Kd.FK_slice_open hMe225; have hv225_0 := hcc225 0 _ rfl; rw [Nat.add_zero, show ((Kd.slice 9 Kd.string)).sz = 1 from rfl, Nat.mul_one] at hv225_0; replace hv225_0 := Option.some.inj (hv225_0.symm.trans hx225_0); injection hv225_0 with hva_ hvn_ hvc_; rw [hva_] at ge225_0; rw [hvc_] at ul225_0; have HL225_0 := Aside0.mk (show Kd.V Kd.string 9 _ w.heap.size _ _ (rd_L1 t222 0) from Kd.V_mk ul225_0 ge225_0); clear hva_ hvn_ hvc_ ge225_0 ul225_0; clear hcc225 hce225; have qi225 : (0 < t222.length) = True := eq_true (by omega); (try rw [show ((0 : Int)).toNat = 0 from rfl] at hx225_0); (try rw [Addr.add_zero'] at hx225_0); have HR225_0 := Aside0.mk hi225_0; have HC225_0 := Aside0.mk hl225_0; clear hi225_0 hl225_0; replace p225 := eq_true p225; replace q225 := eq_true q225))
        go_ret
        exact ⟨by first | rfl | (simp [errW_none, errW_some] <;> rfl) | (simp [*, errW_none, errW_some] <;> rfl), by repeat (first | (with_reducible first | exact HB.out | apply bA_ | apply bN_ | apply bD_) | exact HB.out)⟩
    · rw [if_neg c3] at H
      exact absurd H (by simp)
  · rw [if_neg c2] at H
    have c2b0 : ((t222.length : Int) == 1) = false := beq_eq_false_iff_ne.mpr c2
    have c2b1 : ((t222.length : Int) != 1) = true := bne_iff_ne.mpr c2
    obtain rfl := Option.some.inj H
    go_enter Try.func8, Try.ntmps8
    go_wp2_with (first | ((with_reducible refine gate_dst (N := 3) rfl ?_); (try (refine gate_guard (by rfl) ?_; dsimp only)); refine Kd.N_lit k45 _ 45 ?hg (N' := 3) ?hd (xs := ([(⟨(⟨#[118]⟩ : ByteArray), ([] : List (S45))⟩ : S45)] : List (S45))) (inner := [.string (⟨#[118]⟩ : ByteArray), .slice none 0 0]) (ok := (fun _ => True)) (okp := (fun _ => True)) ?hr ?hp (fun _ hk => hk) ((show ∀ k_, w.heap.size ≤ k_ → (fun _ => True) k_ from fun k_ hk => trivial) _ (Nat.le_refl _)) (Below.refl _ _) (Nat.le_refl _) (by simp) ?_; (case hd => rfl); (case hg => rfl); (case hr => first | (go_simp; done) | (go_simp; rfl)); (case hp => exact (Reps.c2 (show Kd.FK k45 _ _ (⟨(⟨#[118]⟩ : ByteArray), ([] : List (S45))⟩ : S45) [.string (⟨#[118]⟩ : ByteArray), .slice none 0 0] from (k45_mkF _ _ (⟨(⟨#[118]⟩ : ByteArray), ([] : List (S45))⟩ : S45) (Nat.le_refl _) (Kd.F_nil _ _ _))) (Reps.none _ _))); intro v220 w16 ho17 hb hg_ hnew_; clear hg_ hnew_; (first | rw [← Ny219.out] at ho17 | (simp only [Int.reduceToNat] at ho17; rw [← Ny219.out] at ho17)); have n0_ := Aside0.mk (Kd.N_lower ho17 (below_size (by repeat (first | (with_reducible first | exact HB.out | apply bA_ | apply bN_ | apply bD_) | exact HB.out)))); have n1_ := Aside0.mk (below_step (by repeat (first | (with_reducible first | exact HB.out | apply bA_ | apply bN_ | apply bD_) | exact HB.out)) hb); clear HB; have HO221 := n0_; have HB := n1_; clear n0_ n1_; clear hb ho17; obtain ⟨Ao18, co18, eo18⟩ := Kd.N_slice HO221.out; subst eo18) | ((with_reducible refine gate_callee (f := 11) rfl ?_); refine goesL_ (some 4) rfl rfl Try.func11 (by kernel_rfl) rfl #[.slice none 0 0, .slice Ao18 y219.length co18] rfl (by (try simp only [List.map_toArray, List.map_cons, List.map_nil]); first | done | rfl | (simp only [List.length_drop, List.length_take]; rfl)) ?_; (refine (diff_Paths.calls k (fun k_ => False) _ _ ([] : List (S45)) (fun k_ => True) _ _ y219 t222 _ ?side1 ?side2 A1.out).mono ?_); (case side1 => exact Kd.V_nil _ _ _ _ _); (case side2 => exact Kd.N_V (HO221.out)); rintro e w19 ⟨v223, rfl, ho0, hb⟩; refine ⟨_, rfl, ?_⟩; have n0_ := Aside0.mk (Kd.N_elder' (by (with_reducible repeat (first | apply nA_ | apply nN_ | apply nD_)); exact HO221.out) (Kd.N_base ho0) hb); have n1_ := Aside0.mk (Kd.N_lower (Kd.N_mono (ok' := fun k_ => True) ho0 (fun k_ hk_ => trivial)) (below_size (by repeat (first | (with_reducible first | exact HB.out | apply bA_ | apply bN_ | apply bD_) | exact HB.out)))); have n2_ := Aside0.mk (below_step (by repeat (first | (with_reducible first | exact HB.out | apply bA_ | apply bN_ | apply bD_) | exact HB.out)) hb); clear HO221; clear HB; have HO221 := n0_; have HO224 := n1_; have HB := n2_; clear n0_ n1_ n2_; (try clear hb); (try clear hb2); (try clear hk); (try clear hi); (try clear ho0); obtain ⟨Ao20, co20, eo20⟩ := Kd.N_slice HO224.out; subst eo20))
    go_ret
    exact ⟨by first | rfl | (simp [errW_none, errW_some] <;> rfl) | (simp [*, errW_none, errW_some] <;> rfl), by repeat (first | (with_reducible first | exact HB.out | apply bA_ | apply bN_ | apply bD_) | exact HB.out)⟩

end Go.Proofs.Ytbhgocpenbibgaa.PX
/- The chapter's example: the one path at which nothing and one edge differ. -/
set_option linter.unusedVariables false
namespace Go.Proofs.Ytbhgocpenbibgaa.PX
open Go.RowKit Go.Proofs.YtbhgocpenbibgaaW.PrintWords Go.Proofs.YtbhgocpenbibgaaW.PrintLast Go.Proofs.YtbhgocpenbibgaaW.PrintMore Go.Proofs.Ytbhgocpenbibgaa
theorem known_ev : Ev (fun k => cadencelaw13_known.f k) true := by
  have hb : Ok 1 1 [(⟨(⟨#[118]⟩ : ByteArray), []⟩ : Edge)] := ⟨by simp, List.pairwise_singleton _ _, fun x hx => by obtain rfl := List.mem_singleton.1 hx; rfl⟩
  have h := paths_ev (W := 1) (by omega) (by omega) (d := 1) (by omega) (by omega) (Ok.nil 1 1) hb
  have hn : namesOf [[], [(⟨(⟨#[118]⟩ : ByteArray), []⟩ : Edge)]] = [(⟨#[118]⟩ : ByteArray)] := by
    have : ofL ([[], [(⟨(⟨#[118]⟩ : ByteArray), []⟩ : Edge)]].flatMap nms) = [[118]] := by
      refine (ofL_ext (List.pairwise_singleton _ _) fun s => ?_).symm
      simp [nms, tl]
    unfold namesOf
    rw [this]
    rfl
  have hp : pathsM 1 [] [(⟨(⟨#[118]⟩ : ByteArray), []⟩ : Edge)] = [[(⟨#[118]⟩ : ByteArray)]] := by
    rw [pathsM, hn]
    simp [stepP, kid]
  rw [hp] at h
  obtain ⟨K, hK⟩ := h
  refine ⟨K, fun k hk => ?_⟩
  replace hK : diff_Paths.f k [] [(⟨(⟨#[118]⟩ : ByteArray), []⟩ : Edge)] = some [[(⟨#[118]⟩ : ByteArray)]] := hK k hk
  show cadencelaw13_known.f k = some true
  unfold cadencelaw13_known.f
  rw [hK, Option.bind_some, if_pos (by simp), if_pos (by simp)]
  have hr : rd_L1 [[(⟨#[118]⟩ : ByteArray)]] 0 = [(⟨#[118]⟩ : ByteArray)] := rfl
  rw [hr, if_pos (by simp), if_pos (by simp)]
  have h2 : rdOf ByteArray.empty [(⟨#[118]⟩ : ByteArray)] 0 = (⟨#[118]⟩ : ByteArray) := rfl
  rw [h2, toList_tl]
  rfl
end Go.Proofs.Ytbhgocpenbibgaa.PX
/- Raw trees, as they come in: what their cells hold, and that they are no larger than any machine. -/
set_option linter.unusedVariables false
set_option linter.unusedSimpArgs false
namespace Go.Proofs.Ytbhgocpenbibgaa.PX
open Go.RowKit Go.Proofs.YtbhgocpenbibgaaW.PrintWords Go.Proofs.YtbhgocpenbibgaaW.PrintLast Go.Proofs.YtbhgocpenbibgaaW.PrintMore Go.ChangeShapes Go.WideShapes Go.ChangeAt Go.Deep
abbrev Raw := S49
/-- No row in it is longer than the reach of memory. -/
inductive RawOk : List Raw → Prop
  | mk (l : List Raw) (hl : l.length ≤ 3518437208832) (hk : ∀ x ∈ l, RawOk x.f1) : RawOk l
instance : Inhabited Raw := ⟨z49⟩
section
variable {H : Type} {enc : TypeId × Value → H} {w : World}
theorem cells_at {a : Addr} {n : Nat} {cs : List Value} (h : w.cells? 0 a n = some cs) : cs.length = n ∧ ∀ i u, cs[i]? = some u → w.cell? (a.add i) = some u := by
  obtain ⟨_, h1, h2⟩ := World.cells?_some h
  exact ⟨h1, fun i u hu => (h2 i (by rw [← h1]; exact (List.getElem?_eq_some_iff.1 hu).1)).trans hu⟩
theorem add_add_ (a : Addr) (i j : Nat) : (a.add i).add j = a.add (i + j) := by
  unfold Addr.add
  by_cases hi : i = 0 <;> by_cases hj : j = 0 <;> simp [hi, hj, Nat.add_assoc]
set_option maxRecDepth 100000 in
theorem open_raws (N : Nat) : ∀ (fuel : Nat) (cs : List Value) (x : DataW H × List MemPlace), SizeOf.sizeOf x.1 < N → DataW.trod enc Try.prog w 0 (fun _ => true) true fuel 22 cs = some x →
    (∀ n ∈ x.1.weights Try.prog 22, n ≤ reachBytes) →
    ∃ (A : Option Addr) (len cap : Nat) (l : List Raw), cs = [.slice A len cap] ∧ l.length = len ∧ len ≤ cap ∧ Kd.C k49 w A len l ∧ RawOk l := by
  induction N with
  | zero => intro _ _ _ h; exact absurd h (Nat.not_lt_zero _)
  | succ N ih =>
    intro fuel cs x hN h hw
    have cR : Try.prog.cellsOf 49 = 2 := by kernel_rfl
    have bR : Try.prog.bytesOf 49 = 40 := by kernel_rfl
    have cS : Try.prog.cellsOf 9 = 1 := by kernel_rfl
    have cL : Try.prog.cellsOf 22 = 1 := by kernel_rfl
    rcases open_slice Try.underlying22 h with ⟨rfl, rfl⟩ | ⟨a, len, cap, m, n, D, Pl, rfl, _, hl, hm, hmm, hx, hel⟩
    · exact ⟨none, 0, 0, [], rfl, rfl, Nat.le_refl _, Kd.C_nil _ _, .mk _ (by simp) (by simp)⟩
    · simp only [if_true] at hmm
      subst hmm
      rw [cR] at hel
      have hd : x.1 = .slice ((List.range len).map D) ((List.range (m - len)).map fun j => D (len + j)) := by rw [hx]
      rw [hd] at hw hN
      have hw0 : len * 40 ≤ reachBytes := by
        have := hw ((((List.range len).map D).length + ((List.range (m - len)).map fun j => D (len + j)).length) * 40) (by rw [DataW.weights, Try.underlying22]; simp only [bR]; exact List.mem_cons_self)
        simp only [List.length_map, List.length_range] at this
        omega
      have hwi : ∀ i, i < len → ∀ q ∈ (D i).weights Try.prog 49, q ≤ reachBytes := by
        intro i hi q hq
        refine hw q ?_
        rw [DataW.weights, Try.underlying22]
        refine List.mem_cons_of_mem _ (List.mem_append_left _ ?_)
        have : ∀ (L : List (DataW H)), D i ∈ L → q ∈ DataW.weightsAll Try.prog 49 L := by
          intro L
          induction L with
          | nil => simp
          | cons d L ih2 =>
            intro hm
            rw [DataW.weightsAll]
            rcases List.mem_cons.1 hm with e | hm
            · exact List.mem_append_left _ (e ▸ hq)
            · exact List.mem_append_right _ (ih2 hm)
        exact this _ (List.mem_map.2 ⟨i, List.mem_range.2 hi, rfl⟩)
      have hsz : ∀ i, i < len → SizeOf.sizeOf (D i) < N := by
        intro i hi
        have h1 : SizeOf.sizeOf (D i) < SizeOf.sizeOf ((List.range len).map D) := List.sizeOf_lt_of_mem (List.mem_map.2 ⟨i, List.mem_range.2 hi, rfl⟩)
        have h2 : SizeOf.sizeOf (DataW.slice ((List.range len).map D) ((List.range (m - len)).map fun j => D (len + j))) = 1 + SizeOf.sizeOf ((List.range len).map D) + SizeOf.sizeOf ((List.range (m - len)).map fun j => D (len + j)) := by simp
        omega
      obtain ⟨f, hf⟩ := choose_lt (α := Raw) (n := len) (p := fun i q => (∃ c, c.length = 2 ∧ k49.K w q c ∧ ∀ j u, c[j]? = some u → w.cell? (a.add (i * 2 + j)) = some u) ∧ RawOk q.f1) (fun i hi => by
        obtain ⟨c, hc1, hc2⟩ := hel i (by omega)
        obtain ⟨hcl, hcc⟩ := cells_at hc1
        have hD := hwi i hi
        have hS := hsz i hi
        obtain ⟨y0, y1, n2, hy, hl2, h0, h1⟩ := trod_struct2 Try.underlying49 hc2
        have hDi : D i = .agg [y0.1, y1.1] := congrArg Prod.fst hy
        rw [hDi] at hD hS
        match c, hcl with
        | [u0, u1], _ =>
          simp only [cS, cL, List.drop_zero, List.drop_succ_cons, List.take_succ_cons, List.take_zero] at h0 h1
          obtain ⟨s, e0, _, _⟩ := DataW.trod_string Try.underlying9 h0
          obtain ⟨A1, len1, cap1, l1, e1, hl1, hc1', hC1, hR1⟩ := ih n2 _ y1 (by simp at hS; omega) h1 (fun q hq => hD q (by
            rw [DataW.weights, Try.underlying49]
            simp only [List.map_cons, List.map_nil, DataW.weightsEach]
            exact List.mem_append_right _ (List.mem_append_left _ hq)))
          injection e0 with e0
          injection e1 with e1
          subst e0 e1 hl1
          refine ⟨⟨s, l1⟩, ⟨_, rfl, k49_mk w ⟨s, l1⟩ hc1' hC1, fun j u hu => ?_⟩, hR1⟩
          have := hcc j u hu
          rwa [add_add_] at this)
      refine ⟨some a, len, m, (List.range len).map f, rfl, by simp, hl, ⟨by simp, by unfold maxLen at hm; omega, fun hp => ⟨a, rfl, fun j p hj => ?_⟩⟩, .mk _ (by simp; unfold reachBytes at hw0; omega) (fun q hq => ?_)⟩
      · rw [List.getElem?_map] at hj
        obtain ⟨j', hj', rfl⟩ := Option.map_eq_some_iff.1 hj
        have hjl : j < len := by have := (List.getElem?_eq_some_iff.1 hj').1; simpa using this
        have : j' = j := by rw [List.getElem?_range hjl] at hj'; injection hj' with hj'; exact hj'.symm
        subst this
        obtain ⟨c, h1, h2, h3⟩ := (hf j' hjl).1
        exact ⟨c, h1, h2, h3⟩
      · obtain ⟨i, hi, rfl⟩ := List.mem_map.1 hq
        exact (hf i (List.mem_range.1 hi)).2
theorem open_raw {v : Value} {d : DataW H} {p : List MemPlace} {ts : List TypeId} {ds : List (DataW H)} {j : Nat} (hv : ∃ A len cap, v = .slice A len cap) (h : DataW.Trod enc Try.prog w 0 (fun _ => true) true 22 v d p)
    (hsz : (DataW.weightsEach Try.prog ts ds).all (· ≤ reachBytes) = true) (ht : ts[j]? = some 22) (hd : ds[j]? = some d) :
    ∃ (A : Option Addr) (cap : Nat) (l : List Raw), v = .slice A l.length cap ∧ l.length ≤ cap ∧ Kd.C k49 w A l.length l ∧ RawOk l := by
  obtain ⟨A, len, cap, rfl⟩ := hv
  obtain ⟨fuel, hf⟩ := h
  obtain ⟨A', len', cap', l, e, hl, hc, hC, hR⟩ := open_raws (enc := enc) (w := w) _ fuel _ (d, p) (Nat.lt_succ_self _) hf (fun n hn => by
    have := List.all_eq_true.1 hsz _ (DataW.weights_mem_each ht hd n hn)
    simpa using this)
  simp only [Value.cells, List.cons.injEq, and_true, Value.slice.injEq] at e
  obtain ⟨rfl, rfl, rfl⟩ := e
  subst hl
  exact ⟨A, cap, l, rfl, hc, hC, hR⟩
end
end Go.Proofs.Ytbhgocpenbibgaa.PX
-- written by wip/tools/hybrid.py (over the kit's print.py, with functions proved by hand beside it) for this claim
namespace Go.Proofs.Ytbhgocpenbibgaa.PX
open Go.RowKit Go.Proofs.YtbhgocpenbibgaaW.PrintWords Go.Proofs.YtbhgocpenbibgaaW.PrintLast Go.Proofs.YtbhgocpenbibgaaW.PrintMore
attribute [local go_sem] max2_int min2_int max_two min_two max_three min_three max_four min_four   -- for this text's walks alone
set_option linter.unusedVariables false
set_option linter.unusedSimpArgs false

/-! ### cadencelaw2_Count: function 23 -/
mutual
def cadencelaw2_Count.l0 : Nat → List (S49) → Int → Int → Int → Option (Int)
  | 0, _, _, _, _ => none
  | k + 1, x0, x1, x5, x6 => if x6 < (x0.length : Int) then (if x5 < x1 then (if 0 ≤ x6 then ((cadencelaw2_Count.f k ((rd_T49 x0 x6).f1) (wrap64 (x1 - x5))).bind fun t254 => (cadencelaw2_Count.l0 k x0 x1 (wrap64 (x5 + t254)) (wrap64 (x6 + 1)))) else (none)) else (some x5)) else (some x5)
def cadencelaw2_Count.f : Nat → List (S49) → Int → Option (Int)
  | 0, _, _ => none
  | k + 1, l0, a1 => cadencelaw2_Count.l0 k l0 a1 (l0.length : Int) 0
end
theorem cadencelaw2_Count.mono_l : ∀ k, (∀ y0 y1, LeO (cadencelaw2_Count.f k y0 y1) (cadencelaw2_Count.f (k + 1) y0 y1)) ∧ (∀ y0 y1 y2 y3, LeO (cadencelaw2_Count.l0 k y0 y1 y2 y3) (cadencelaw2_Count.l0 (k + 1) y0 y1 y2 y3))
  | 0 => ⟨fun _ _ r h => by simp [cadencelaw2_Count.f] at h, fun _ _ _ _ r h => by simp [cadencelaw2_Count.l0] at h⟩
  | k + 1 => by
    obtain ⟨ih0, ih1⟩ := cadencelaw2_Count.mono_l k
    refine ⟨?_, ?_⟩
    · intro y0 y1
      unfold cadencelaw2_Count.f
      repeat' first
      | (with_reducible exact ih0 _ _)
      | (with_reducible exact ih1 _ _ _ _)
      | (with_reducible exact LeO.refl _)
      | (with_reducible exact LeO.none _)
      | (with_reducible refine LeO.ite ?_ ?_)
      | (with_reducible refine LeO.bind ?_ (fun _ => ?_))
      | exact ih0 _ _
      | exact ih1 _ _ _ _
      | exact LeO.none _
      | refine LeO.ite ?_ ?_
      | refine LeO.bind ?_ (fun _ => ?_)
    · intro y0 y1 y2 y3
      unfold cadencelaw2_Count.l0
      repeat' first
      | (with_reducible exact ih0 _ _)
      | (with_reducible exact ih1 _ _ _ _)
      | (with_reducible exact LeO.refl _)
      | (with_reducible exact LeO.none _)
      | (with_reducible refine LeO.ite ?_ ?_)
      | (with_reducible refine LeO.bind ?_ (fun _ => ?_))
      | exact ih0 _ _
      | exact ih1 _ _ _ _
      | exact LeO.none _
      | refine LeO.ite ?_ ?_
      | refine LeO.bind ?_ (fun _ => ?_)
theorem cadencelaw2_Count.mono : ∀ a0 a1 k, LeO (cadencelaw2_Count.f k a0 a1) (cadencelaw2_Count.f (k + 1) a0 a1) := by
  intro a0 a1 k
  obtain ⟨ih0, ih1⟩ := cadencelaw2_Count.mono_l k
  exact ih0 a0 a1
set_option maxHeartbeats 8000000 in
set_option maxRecDepth 100000 in
theorem cadencelaw2_Count.calls (k : Nat) : ∀ (A0 : Option Addr) (c0 : Nat) (l0 : List (S49)) (a1 : Int) (r : Int) (w : World) (hr0 : Kd.C k49 w A0 l0.length l0) (hc0 : l0.length ≤ c0) (h : cadencelaw2_Count.f k l0 a1 = some r),
    Calls Try.prog 23 #[.slice A0 l0.length c0, .int .i64 a1] w fun e w' => e = .returned (.int .i64 r) ∧ Drawn0 w w' := by
  induction k using Nat.strongRecOn with
  | _ k ih =>
  intro A0 c0 l0 a1 r w hr0 hc0 h
  cases k with
  | zero => exact absurd h (by simp [cadencelaw2_Count.f])
  | succ k =>
  simp only [cadencelaw2_Count.f] at h
  have HR0 := Aside0.mk hr0
  have HC0 := Aside0.mk hc0
  clear hr0 hc0
  have H : (cadencelaw2_Count.l0 k l0 a1 (l0.length : Int) 0) = some r := h
  clear h
  have H' := Aside0.mk H
  clear H
  go_enter Try.func23, Try.ntmps23
  go_wp2
  go_loopg [5, 6] k (fun kq v5 v6 w' => ∃ (x5_1 : Int) (x6_1 : Int), v5 = .int .i64 x5_1 ∧ v6 = .int .i64 x6_1 ∧ Aside0 (cadencelaw2_Count.l0 kq l0 a1 x5_1 x6_1 = some r) ∧ Aside0 (kq ≤ k) ∧ Drawn0 w w')
  case atStart => exact ⟨((l0.length : Int)), (0), (by first | rfl | (simp; done) | (simp [*]; done)), (by first | rfl | (simp; done) | (simp [*]; done)), H', ⟨Nat.le_refl _⟩, by repeat (first | exact Drawn0.refl _ | apply Drawn0.step)⟩
  case round =>
    clear H'
    try clear c2
    try clear p2
    obtain ⟨x5_1, x6_1, rfl, rfl, HA, HK1, ⟨m1, rfl⟩⟩ := hrel
    cases gk with
    | zero => exact absurd HA.out (by simp [cadencelaw2_Count.l0])
    | succ k1 =>
      have H := HA.out
      clear HA
      simp only [cadencelaw2_Count.l0] at H
      by_cases c3 : x6_1 < (l0.length : Int)
      · rw [if_pos c3] at H
        have c3b0 : decide (x6_1 < (l0.length : Int)) = true := decide_eq_true c3
        clear c3
        by_cases c4 : x5_1 < a1
        · rw [if_pos c4] at H
          have c4b0 : decide (x5_1 < a1) = true := decide_eq_true c4
          clear c4
          by_cases c5 : 0 ≤ x6_1
          · rw [if_pos c5] at H
            have c5b0 : decide (0 ≤ x6_1) = true := decide_eq_true c5
            clear c5
            replace H := Option.bind_eq_some_iff.mp H
            obtain ⟨t254, A60, H⟩ := H
            replace H : (cadencelaw2_Count.l0 k1 l0 a1 (wrap64 (x5_1 + t254)) (wrap64 (x6_1 + 1))) = some r := H
            have A6 := Aside0.mk A60
            clear A60
            have H' := Aside0.mk H
            clear H
            have p253 : 0 ≤ (x6_1 : Int) := of_decide_eq_true (by first | (with_reducible assumption) | assumption)
            have q253 : x6_1 < (l0.length : Int) := of_decide_eq_true (by first | (with_reducible assumption) | assumption)
            obtain ⟨ad253, A253_1, c253_1, e253, hx253_0, hx253_1, hl253_1, hi253_1⟩ := at_T49 HR0.out x6_1 p253 q253
            cases e253
            have HR253_1 := Aside0.mk hi253_1
            have HC253_1 := Aside0.mk hl253_1
            clear hi253_1 hl253_1
            replace p253 := eq_true p253
            replace q253 := eq_true q253
            go_wp2_with (first | ((with_reducible refine gate_callee (f := 23) rfl ?_); refine goesL_ (some 29) rfl rfl Try.func23 (by kernel_rfl) rfl #[.slice A253_1 ((rd_T49 l0 x6_1).f1).length c253_1, .int .i64 (wrap64 (a1 - x5_1))] rfl (by (try simp only [List.map_toArray, List.map_cons, List.map_nil]); first | done | rfl | (simp only [List.length_drop, List.length_take]; rfl)) ?_; (with_reducible refine (ih k1 (by have := HK1.out; omega) _ _ ((rd_T49 l0 x6_1).f1) (wrap64 (a1 - x5_1)) t254 _ ?side1 ?side2 A6.out).mono ?_); (case side1 => repeat (first | exact HR253_1.out | (with_reducible refine cA_ ?_ _) | (with_reducible refine cN_ ?_ _) | (with_reducible refine cD_ ?_))); (case side2 => exact HC253_1.out); rintro e w' ⟨rfl, ⟨nd, rfl⟩⟩; refine ⟨_, rfl, ?_⟩))
            go_roundg k1
            case measure => have := HK1.out; omega
            case rel => exact ⟨(wrap64 (x5_1 + t254)), (wrap64 (x6_1 + 1)), (by first | rfl | (simp; done) | (simp [*]; done)), (by first | rfl | (simp; done) | (simp [*]; done)), H', ⟨by have := HK1.out; omega⟩, by repeat (first | exact Drawn0.refl _ | apply Drawn0.step)⟩
          · rw [if_neg c5] at H
            exact absurd H (by simp)
        · rw [if_neg c4] at H
          have c4b0 : decide (x5_1 < a1) = false := decide_eq_false c4
          clear c4
          obtain rfl := Option.some.inj H
          go_wp2
          go_ret
          exact ⟨by first | rfl | (simp; done) | (simp [*]; done), by repeat (first | exact Drawn0.refl _ | apply Drawn0.step)⟩
      · rw [if_neg c3] at H
        have c3b0 : decide (x6_1 < (l0.length : Int)) = false := decide_eq_false c3
        clear c3
        obtain rfl := Option.some.inj H
        go_wp2
        go_ret
        exact ⟨by first | rfl | (simp; done) | (simp [*]; done), by repeat (first | exact Drawn0.refl _ | apply Drawn0.step)⟩

end Go.Proofs.Ytbhgocpenbibgaa.PX
-- written by wip/tools/hybrid.py (over the kit's print.py, with functions proved by hand beside it) for this claim
namespace Go.Proofs.Ytbhgocpenbibgaa.PX
open Go.RowKit Go.Proofs.YtbhgocpenbibgaaW.PrintWords Go.Proofs.YtbhgocpenbibgaaW.PrintLast Go.Proofs.YtbhgocpenbibgaaW.PrintMore
attribute [local go_sem] max2_int min2_int max_two min_two max_three min_three max_four min_four   -- for this text's walks alone
set_option linter.unusedVariables false
set_option linter.unusedSimpArgs false

/-! ### cadencelaw2_Few: function 9 -/
def cadencelaw2_Few.f (k : Nat) (l0 : List (S49)) : Option (Bool) := (cadencelaw2_Count.f k l0 200).bind fun t255 => (some (decide (t255 < 200)))
theorem cadencelaw2_Few.mono : ∀ a0 k, LeO (cadencelaw2_Few.f k a0) (cadencelaw2_Few.f (k + 1) a0) := by
  intro a0 k
  unfold cadencelaw2_Few.f
  repeat' first
      | (with_reducible exact cadencelaw2_Count.mono _ _ _)
      | (with_reducible exact LeO.refl _)
      | (with_reducible exact LeO.none _)
      | (with_reducible refine LeO.ite ?_ ?_)
      | (with_reducible refine LeO.bind ?_ (fun _ => ?_))
      | exact cadencelaw2_Count.mono _ _ _
      | exact LeO.none _
      | refine LeO.ite ?_ ?_
      | refine LeO.bind ?_ (fun _ => ?_)
set_option maxHeartbeats 8000000 in
set_option maxRecDepth 100000 in
theorem cadencelaw2_Few.calls (k : Nat) (A0 : Option Addr) (c0 : Nat) (l0 : List (S49)) (r : Bool) (w : World) (hr0 : Kd.C k49 w A0 l0.length l0) (hc0 : l0.length ≤ c0) (h : cadencelaw2_Few.f k l0 = some r) :
    Calls Try.prog 9 #[.slice A0 l0.length c0] w fun e w' => e = .returned (.bool r) ∧ Drawn0 w w' := by
  have HR0 := Aside0.mk hr0
  have HC0 := Aside0.mk hc0
  clear hr0 hc0
  have H : ((cadencelaw2_Count.f k l0 200).bind fun t255 => (some (decide (t255 < 200)))) = some r := h
  clear h
  replace H := Option.bind_eq_some_iff.mp H
  obtain ⟨t255, A20, H⟩ := H
  replace H : (some (decide (t255 < 200))) = some r := H
  have A2 := Aside0.mk A20
  clear A20
  obtain rfl := Option.some.inj H
  go_enter Try.func9, Try.ntmps9
  go_wp2_with (first | ((with_reducible refine gate_callee (f := 23) rfl ?_); refine goesL_ (some 4) rfl rfl Try.func23 (by kernel_rfl) rfl #[.slice A0 l0.length c0, .int .i64 200] rfl (by (try simp only [List.map_toArray, List.map_cons, List.map_nil]); first | done | rfl | (simp only [List.length_drop, List.length_take]; rfl)) ?_; (with_reducible refine (cadencelaw2_Count.calls k _ _ l0 200 t255 _ ?side1 ?side2 A2.out).mono ?_); (case side1 => repeat (first | exact HR0.out | (with_reducible refine cA_ ?_ _) | (with_reducible refine cN_ ?_ _) | (with_reducible refine cD_ ?_))); (case side2 => exact HC0.out); rintro e w' ⟨rfl, ⟨nd, rfl⟩⟩; refine ⟨_, rfl, ?_⟩))
  go_ret
  exact ⟨by first | rfl | (simp; done) | (simp [*]; done), by repeat (first | exact Drawn0.refl _ | apply Drawn0.step)⟩

end Go.Proofs.Ytbhgocpenbibgaa.PX
/- Raw trees counted; numbers from 0 to n - 1: what the printed functions come to. -/
set_option linter.unusedVariables false
namespace Go.Proofs.Ytbhgocpenbibgaa.PX
open Go.RowKit Go.Proofs.YtbhgocpenbibgaaW.PrintWords Go.Proofs.YtbhgocpenbibgaaW.PrintLast Go.Proofs.YtbhgocpenbibgaaW.PrintMore Go.Proofs.Ytbhgocpenbibgaa
theorem rdRaw_nat {xs : List Raw} {i : Nat} (h : i < xs.length) : rd_T49 xs (i : Int) = xs[i] := by
  simp [rd_T49, List.getD_eq_getElem?_getD, h]
theorem count_ev {l : List Raw} (h : RawOk l) : ∀ m : Int, 0 ≤ m → m ≤ 200 → ∃ c, (l.length : Int) ≤ c ∧ c ≤ m + 3518437208832 ∧ Ev (fun k => cadencelaw2_Count.f k l m) c := by
  induction h with
  | mk l hl hk ih =>
    intro m h0 h1
    have loop : ∀ (d i : Nat) (n : Int), i + d = l.length → (l.length : Int) ≤ n → n ≤ m + 3518437208832 → ∃ c, (l.length : Int) ≤ c ∧ c ≤ m + 3518437208832 ∧ Ev (fun k => cadencelaw2_Count.l0 k l m n (i : Int)) c := by
      intro d
      induction d with
      | zero =>
        intro i n hi hn0 hn1
        have e : ∀ k, cadencelaw2_Count.l0 (k + 1) l m n (i : Int) = some n := fun k => by
          simp only [cadencelaw2_Count.l0]
          rw [if_neg (by omega)]
        exact ⟨n, hn0, hn1, Ev.step e (Ev.now _)⟩
      | succ d ihd =>
        intro i n hi hn0 hn1
        have hil : i < l.length := by omega
        by_cases hn : n < m
        · obtain ⟨c1, a1, a2, a3⟩ := ih l[i] (List.getElem_mem hil) (m - n) (by omega) (by omega)
          obtain ⟨c2, b1, b2, b3⟩ := ihd (i + 1) (n + c1) (by omega) (by omega) (by omega)
          have e : ∀ k, cadencelaw2_Count.l0 (k + 1) l m n (i : Int) = (cadencelaw2_Count.f k l[i].f1 (m - n)).bind fun t => cadencelaw2_Count.l0 k l m (wrap64 (n + t)) ((i + 1 : Nat) : Int) := fun k => by
            simp only [cadencelaw2_Count.l0]
            rw [if_pos (by omega), if_pos hn, if_pos (by omega), rdRaw_nat hil, wrap_id (by omega) (by omega), wrap_succ (by omega)]
          refine ⟨c2, b1, b2, Ev.step e (Ev.bind a3 ?_)⟩
          rw [wrap_id (by omega) (by omega)]
          exact b3
        · have e : ∀ k, cadencelaw2_Count.l0 (k + 1) l m n (i : Int) = some n := fun k => by
            simp only [cadencelaw2_Count.l0]
            rw [if_pos (by omega), if_neg hn]
          exact ⟨n, hn0, hn1, Ev.step e (Ev.now _)⟩
    obtain ⟨c, c1, c2, c3⟩ := loop l.length 0 l.length (by omega) (by omega) (by omega)
    exact ⟨c, c1, c2, Ev.step (fun k => by simp only [cadencelaw2_Count.f]; rfl) c3⟩
theorem few_ev {l : List Raw} (h : RawOk l) : ∃ b, (b = true → l.length < 200) ∧ Ev (fun k => cadencelaw2_Few.f k l) b := by
  obtain ⟨c, h1, _, hc⟩ := count_ev h 200 (by omega) (by omega)
  exact ⟨decide (c < 200), fun h => by have := of_decide_eq_true h; omega, Ev.bind hc (Ev.now _)⟩
theorem RawOk.kids {l : List Raw} (h : RawOk l) : ∀ x ∈ l, RawOk x.f1 := by
  cases h with
  | mk _ _ hk => exact hk
theorem RawOk.len {l : List Raw} (h : RawOk l) : l.length ≤ 3518437208832 := by
  cases h with
  | mk _ hl _ => exact hl
theorem RawOk.append {l m : List Raw} (h : RawOk l) (h' : RawOk m) (hl : l.length < 200) (hm : m.length < 200) : RawOk (l ++ m) :=
  .mk _ (by rw [List.length_append]; omega) (fun x hx => by
    rcases List.mem_append.1 hx with hx | hx
    · exact h.kids x hx
    · exact h'.kids x hx)
theorem tmod_in (a : Int) {n : Int} (h0 : 0 < n) (h1 : n ≤ 1000000) : ∃ r, 0 ≤ r ∧ r < n ∧ (if Int.tmod a n < 0 then wrap64 (Int.tmod a n + n) else Int.tmod a n) = r := by
  have h2 := Int.tmod_lt_of_pos a h0
  have h3 := Int.lt_tmod_of_pos a h0
  split
  · exact ⟨Int.tmod a n + n, by omega, by omega, wrap_id (by omega) (by omega)⟩
  · exact ⟨_, by omega, h2, rfl⟩
end Go.Proofs.Ytbhgocpenbibgaa.PX
-- written by wip/tools/hybrid.py (over the kit's print.py, with functions proved by hand beside it) for this claim
namespace Go.Proofs.Ytbhgocpenbibgaa.PX
open Go.RowKit Go.Proofs.YtbhgocpenbibgaaW.PrintWords Go.Proofs.YtbhgocpenbibgaaW.PrintLast Go.Proofs.YtbhgocpenbibgaaW.PrintMore
attribute [local go_sem] max2_int min2_int max_two min_two max_three min_three max_four min_four   -- for this text's walks alone
set_option linter.unusedVariables false
set_option linter.unusedSimpArgs false

/-! ### cadencelaw13_within: function 20 -/
def cadencelaw13_within.f (a0 : Int) (a1 : Int) : Option (Int) := if a1 = 0 then (none) else (if (Int.tmod a0 a1) < 0 then (some (wrap64 ((Int.tmod a0 a1) + a1))) else (some (Int.tmod a0 a1)))
set_option maxHeartbeats 8000000 in
set_option maxRecDepth 100000 in
theorem cadencelaw13_within.calls (a0 : Int) (a1 : Int) (r : Int) (w : World) (h : cadencelaw13_within.f a0 a1 = some r) :
    Calls Try.prog 20 #[.int .i64 a0, .int .i64 a1] w fun e w' => e = .returned (.int .i64 r) ∧ Drawn0 w w' := by
  have H : (if a1 = 0 then (none) else (if (Int.tmod a0 a1) < 0 then (some (wrap64 ((Int.tmod a0 a1) + a1))) else (some (Int.tmod a0 a1)))) = some r := h
  clear h
  by_cases c3 : a1 = 0
  · rw [if_pos c3] at H
    exact absurd H (by simp)
  · rw [if_neg c3] at H
    have c3b0 : (a1 == 0) = false := beq_eq_false_iff_ne.mpr c3
    have c3b1 : (a1 != 0) = true := bne_iff_ne.mpr c3
    by_cases c4 : (Int.tmod a0 a1) < 0
    · rw [if_pos c4] at H
      have c4b0 : decide ((Int.tmod a0 a1) < 0) = true := decide_eq_true c4
      clear c4
      obtain rfl := Option.some.inj H
      go_enter Try.func20, Try.ntmps20
      go_wp2
      go_ret
      exact ⟨by first | rfl | (simp; done) | (simp [*]; done), by repeat (first | exact Drawn0.refl _ | apply Drawn0.step)⟩
    · rw [if_neg c4] at H
      have c4b0 : decide ((Int.tmod a0 a1) < 0) = false := decide_eq_false c4
      clear c4
      obtain rfl := Option.some.inj H
      go_enter Try.func20, Try.ntmps20
      go_wp2
      go_ret
      exact ⟨by first | rfl | (simp; done) | (simp [*]; done), by repeat (first | exact Drawn0.refl _ | apply Drawn0.step)⟩

end Go.Proofs.Ytbhgocpenbibgaa.PX
-- written by wip/tools/hybrid.py (over the kit's print.py, with functions proved by hand beside it) for this claim
namespace Go.Proofs.Ytbhgocpenbibgaa.PX
open Go.RowKit Go.Proofs.YtbhgocpenbibgaaW.PrintWords Go.Proofs.YtbhgocpenbibgaaW.PrintLast Go.Proofs.YtbhgocpenbibgaaW.PrintMore
attribute [local go_sem] max2_int min2_int max_two min_two max_three min_three max_four min_four   -- for this text's walks alone
set_option linter.unusedVariables false
set_option linter.unusedSimpArgs false

/-! ### cadencelaw13_DiffFront: function 6 -/
def cadencelaw13_DiffFront.j0 : Nat → List ByteArray → List ByteArray → Int → Bool → Option (Bool)
  | 0, _, _, _, _ => none
  | k + 1, x0, x1, x2, x17 => if x17 = true then (some true) else ((cadencelaw13_within.f x2 (wrap64 ((x0.length : Int) + 1))).bind fun t235 => ((diff_Front.f k x0 x1).bind fun t236 => ((cadenceref13_Front.f k x0 x1).bind fun t237 => (if (t236 == t237) = true then (if 0 ≤ t235 then (if t235 ≤ (x0.length : Int) then ((diff_Front.f k x0 (x0.take (t235 : Int).toNat)).bind fun t239 => (if t239 = true then ((diff_Front.f k x0 ([] : List ByteArray)).bind fun t240 => (if t240 = true then ((some (([] : List ByteArray) : List ByteArray)).bind fun y241 => (if y241.length + x0.length < 8796093022208 then ((some (y241 ++ x0 : List ByteArray)).bind fun y244 => (if y244.length + x1.length < 8796093022208 then ((diff_Front.f k (y244 ++ x1) x0).bind fun t250 => (if t250 = true then ((diff_Front.f k (x0.take (t235 : Int).toNat) x0).bind fun t252 => (some (t252 == (t235 == (x0.length : Int))))) else (some false))) else (none))) else (none))) else (some false))) else (some false))) else (none)) else (none)) else (some false)))))
def cadencelaw13_DiffFront.f (k : Nat) (l0 : List ByteArray) (l1 : List ByteArray) (a2 : Int) : Option (Bool) := (cadencelaw13_known.f k).bind fun t234 => (if t234 = true then (if (l0.length : Int) > 20 then (cadencelaw13_DiffFront.j0 k l0 l1 a2 true) else (cadencelaw13_DiffFront.j0 k l0 l1 a2 (decide ((l1.length : Int) > 20)))) else (some false))
theorem cadencelaw13_DiffFront.mono_l : ∀ k, (∀ y0 y1 y2 y3, LeO (cadencelaw13_DiffFront.j0 k y0 y1 y2 y3) (cadencelaw13_DiffFront.j0 (k + 1) y0 y1 y2 y3))
  | 0 => fun _ _ _ _ r h => by simp [cadencelaw13_DiffFront.j0] at h
  | k + 1 => by
    have ih0 := cadencelaw13_DiffFront.mono_l k
    · intro y0 y1 y2 y3
      unfold cadencelaw13_DiffFront.j0
      repeat' first
      | (with_reducible exact ih0 _ _ _ _)
      | (with_reducible exact cadencelaw13_known.mono _)
      | (with_reducible exact cadenceref13_Front.mono _ _ _)
      | (with_reducible exact diff_Front.mono _ _ _)
      | (with_reducible exact LeO.refl _)
      | (with_reducible exact LeO.none _)
      | (with_reducible refine LeO.ite ?_ ?_)
      | (with_reducible refine LeO.bind ?_ (fun _ => ?_))
      | exact ih0 _ _ _ _
      | exact cadencelaw13_known.mono _
      | exact cadenceref13_Front.mono _ _ _
      | exact diff_Front.mono _ _ _
      | exact LeO.none _
      | refine LeO.ite ?_ ?_
      | refine LeO.bind ?_ (fun _ => ?_)
theorem cadencelaw13_DiffFront.mono : ∀ a0 a1 a2 k, LeO (cadencelaw13_DiffFront.f k a0 a1 a2) (cadencelaw13_DiffFront.f (k + 1) a0 a1 a2) := by
  intro a0 a1 a2 k
  have ih0 := cadencelaw13_DiffFront.mono_l k
  unfold cadencelaw13_DiffFront.f
  repeat' first
      | (with_reducible exact ih0 _ _ _ _)
      | (with_reducible exact cadencelaw13_known.mono _)
      | (with_reducible exact cadenceref13_Front.mono _ _ _)
      | (with_reducible exact diff_Front.mono _ _ _)
      | (with_reducible exact LeO.refl _)
      | (with_reducible exact LeO.none _)
      | (with_reducible refine LeO.ite ?_ ?_)
      | (with_reducible refine LeO.bind ?_ (fun _ => ?_))
      | exact ih0 _ _ _ _
      | exact cadencelaw13_known.mono _
      | exact cadenceref13_Front.mono _ _ _
      | exact diff_Front.mono _ _ _
      | exact LeO.none _
      | refine LeO.ite ?_ ?_
      | refine LeO.bind ?_ (fun _ => ?_)
set_option maxHeartbeats 8000000 in
set_option maxRecDepth 100000 in
theorem cadencelaw13_DiffFront.calls (k : Nat) (A0 : Option Addr) (c0 : Nat) (l0 : List ByteArray) (A1 : Option Addr) (c1 : Nat) (l1 : List ByteArray) (a2 : Int) (r : Bool) (w : World) (hr0 : Kd.C Kd.string w A0 l0.length l0) (hc0 : l0.length ≤ c0) (hr1 : Kd.C Kd.string w A1 l1.length l1) (hc1 : l1.length ≤ c1) (h : cadencelaw13_DiffFront.f k l0 l1 a2 = some r) :
    Calls Try.prog 6 #[.slice A0 l0.length c0, .slice A1 l1.length c1, .int .i64 a2] w fun e w' => e = .returned (.bool r) ∧ Below w.heap.size w w' := by
  have HR0 := Aside0.mk hr0
  have HC0 := Aside0.mk hc0
  clear hr0 hc0
  have HR1 := Aside0.mk hr1
  have HC1 := Aside0.mk hc1
  clear hr1 hc1
  have HB := Aside0.mk (Below.refl w.heap.size w)
  have H : ((cadencelaw13_known.f k).bind fun t234 => (if t234 = true then (if (l0.length : Int) > 20 then (cadencelaw13_DiffFront.j0 k l0 l1 a2 true) else (cadencelaw13_DiffFront.j0 k l0 l1 a2 (decide ((l1.length : Int) > 20)))) else (some false))) = some r := h
  clear h
  replace H := Option.bind_eq_some_iff.mp H
  obtain ⟨t234, A40, H⟩ := H
  replace H : (if t234 = true then (if (l0.length : Int) > 20 then (cadencelaw13_DiffFront.j0 k l0 l1 a2 true) else (cadencelaw13_DiffFront.j0 k l0 l1 a2 (decide ((l1.length : Int) > 20)))) else (some false)) = some r := H
  have A4 := Aside0.mk A40
  clear A40
  by_cases c5 : t234 = true
  · subst c5
    have H1 : (if (l0.length : Int) > 20 then (cadencelaw13_DiffFront.j0 k l0 l1 a2 true) else (cadencelaw13_DiffFront.j0 k l0 l1 a2 (decide ((l1.length : Int) > 20)))) = some r := by rw [if_pos rfl] at H; exact H
    clear H
    have H := H1
    clear H1
    have HC6 := Aside0.mk H
    clear H
    go_enter Try.func6, Try.ntmps6
    go_upto_region 3 with (first | ((with_reducible refine gate_callee (f := 8) rfl ?_); refine goesL_ (some 8) rfl rfl Try.func8 (by kernel_rfl) rfl #[] rfl (by (try simp only [List.map_toArray, List.map_cons, List.map_nil]); first | done | rfl | (simp only [List.length_drop, List.length_take]; rfl)) ?_; (with_reducible refine (cadencelaw13_known.calls k  true _ A4.out).mono ?_); rintro e w7 ⟨rfl, hb⟩; refine ⟨_, rfl, ?_⟩; have n0_ := Aside0.mk (below_step (by repeat (first | (with_reducible first | exact HB.out | apply bA_ | apply bN_ | apply bD_) | exact HB.out)) hb); clear HB; have HB := n0_; clear n0_; (try clear hb); (try clear hb2); (try clear hk); (try clear hi)))
    (try simp only [Act.put, List.setIfInBounds_toArray, List.set_cons_zero, List.set_cons_succ])
    go_cut [17] (fun v17 wc => ∃ (kq : Nat) (x17_5 : Bool), v17 = .bool x17_5 ∧ Aside0 (cadencelaw13_DiffFront.j0 kq l0 l1 a2 x17_5 = some r) ∧ Aside0 (kq ≤ k) ∧ Aside0 (Below w.heap.size w wc))
    case first =>
      have H := HC6.out
      clear HC6
      by_cases c8 : (l0.length : Int) > 20
      · rw [if_pos c8] at H
        have c8b0 : decide (20 < (l0.length : Int)) = true := decide_eq_true c8
        have c8b1 : decide (20 < l0.length) = true := decide_eq_true (by omega)
        clear c8
        (first | rw [c8b0] | (simp only [i64_w, i32_w]; rw [c8b0]) | skip)
        have H' := Aside0.mk H
        clear H
        go_wp2
        go_meet
        case rel => exact ⟨_, (true), (by first | rfl | (simp; done) | (simp [*]; done)), H', ⟨by first | omega | exact Nat.le_refl _⟩, ⟨by repeat (first | (with_reducible first | exact HB.out | apply bA_ | apply bN_ | apply bD_) | exact HB.out)⟩⟩
      · rw [if_neg c8] at H
        have c8b0 : decide (20 < (l0.length : Int)) = false := decide_eq_false c8
        have c8b1 : decide (20 < l0.length) = false := decide_eq_false (by omega)
        clear c8
        (first | rw [c8b0] | (simp only [i64_w, i32_w]; rw [c8b0]) | skip)
        have H' := Aside0.mk H
        clear H
        go_wp2
        go_meet
        case rel => exact ⟨_, (decide ((l1.length : Int) > 20)), (by first | rfl | (simp; done) | (simp [*]; done)), H', ⟨by first | omega | exact Nat.le_refl _⟩, ⟨by repeat (first | (with_reducible first | exact HB.out | apply bA_ | apply bN_ | apply bD_) | exact HB.out)⟩⟩
    case rest =>
      clear HC6
      try clear c1
      try clear p2
      try clear c5
      try clear c6
      try clear c8
      try clear c8b0
      try clear c8b1
      obtain ⟨kq, x17_5, rfl, HA, HJ5, HB⟩ := hcut
      cases kq with
      | zero => exact absurd HA.out (by simp [cadencelaw13_DiffFront.j0])
      | succ kj5 =>
        have H := HA.out
        clear HA
        simp only [cadencelaw13_DiffFront.j0] at H
        by_cases c9 : x17_5 = true
        · subst c9
          have H1 : (some true) = some r := by rw [if_pos rfl] at H; exact H
          clear H
          have H := H1
          clear H1
          obtain rfl := Option.some.inj H
          go_wp2
          go_ret
          exact ⟨by first | rfl | (simp [errW_none, errW_some] <;> rfl) | (simp [*, errW_none, errW_some] <;> rfl), by repeat (first | (with_reducible first | exact HB.out | apply bA_ | apply bN_ | apply bD_) | exact HB.out)⟩
        · replace c9 := Bool.eq_false_iff.mpr c9
          subst c9
          have H1 : ((cadencelaw13_within.f a2 (wrap64 ((l0.length : Int) + 1))).bind fun t235 => ((diff_Front.f kj5 l0 l1).bind fun t236 => ((cadenceref13_Front.f kj5 l0 l1).bind fun t237 => (if (t236 == t237) = true then (if 0 ≤ t235 then (if t235 ≤ (l0.length : Int) then ((diff_Front.f kj5 l0 (l0.take (t235 : Int).toNat)).bind fun t239 => (if t239 = true then ((diff_Front.f kj5 l0 ([] : List ByteArray)).bind fun t240 => (if t240 = true then ((some (([] : List ByteArray) : List ByteArray)).bind fun y241 => (if y241.length + l0.length < 8796093022208 then ((some (y241 ++ l0 : List ByteArray)).bind fun y244 => (if y244.length + l1.length < 8796093022208 then ((diff_Front.f kj5 (y244 ++ l1) l0).bind fun t250 => (if t250 = true then ((diff_Front.f kj5 (l0.take (t235 : Int).toNat) l0).bind fun t252 => (some (t252 == (t235 == (l0.length : Int))))) else (some false))) else (none))) else (none))) else (some false))) else (some false))) else (none)) else (none)) else (some false))))) = some r := by rw [if_neg (show ¬ (false = true) by decide)] at H; exact H
          clear H
          have H := H1
          clear H1
          replace H := Option.bind_eq_some_iff.mp H
          obtain ⟨t235, A100, H⟩ := H
          replace H : ((diff_Front.f kj5 l0 l1).bind fun t236 => ((cadenceref13_Front.f kj5 l0 l1).bind fun t237 => (if (t236 == t237) = true then (if 0 ≤ t235 then (if t235 ≤ (l0.length : Int) then ((diff_Front.f kj5 l0 (l0.take (t235 : Int).toNat)).bind fun t239 => (if t239 = true then ((diff_Front.f kj5 l0 ([] : List ByteArray)).bind fun t240 => (if t240 = true then ((some (([] : List ByteArray) : List ByteArray)).bind fun y241 => (if y241.length + l0.length < 8796093022208 then ((some (y241 ++ l0 : List ByteArray)).bind fun y244 => (if y244.length + l1.length < 8796093022208 then ((diff_Front.f kj5 (y244 ++ l1) l0).bind fun t250 => (if t250 = true then ((diff_Front.f kj5 (l0.take (t235 : Int).toNat) l0).bind fun t252 => (some (t252 == (t235 == (l0.length : Int))))) else (some false))) else (none))) else (none))) else (some false))) else (some false))) else (none)) else (none)) else (some false)))) = some r := H
          have A10 := Aside0.mk A100
          clear A100
          replace H := Option.bind_eq_some_iff.mp H
          obtain ⟨t236, A110, H⟩ := H
          replace H : ((cadenceref13_Front.f kj5 l0 l1).bind fun t237 => (if (t236 == t237) = true then (if 0 ≤ t235 then (if t235 ≤ (l0.length : Int) then ((diff_Front.f kj5 l0 (l0.take (t235 : Int).toNat)).bind fun t239 => (if t239 = true then ((diff_Front.f kj5 l0 ([] : List ByteArray)).bind fun t240 => (if t240 = true then ((some (([] : List ByteArray) : List ByteArray)).bind fun y241 => (if y241.length + l0.length < 8796093022208 then ((some (y241 ++ l0 : List ByteArray)).bind fun y244 => (if y244.length + l1.length < 8796093022208 then ((diff_Front.f kj5 (y244 ++ l1) l0).bind fun t250 => (if t250 = true then ((diff_Front.f kj5 (l0.take (t235 : Int).toNat) l0).bind fun t252 => (some (t252 == (t235 == (l0.length : Int))))) else (some false))) else (none))) else (none))) else (some false))) else (some false))) else (none)) else (none)) else (some false))) = some r := H
          have A11 := Aside0.mk A110
          clear A110
          replace H := Option.bind_eq_some_iff.mp H
          obtain ⟨t237, A120, H⟩ := H
          replace H : (if (t236 == t237) = true then (if 0 ≤ t235 then (if t235 ≤ (l0.length : Int) then ((diff_Front.f kj5 l0 (l0.take (t235 : Int).toNat)).bind fun t239 => (if t239 = true then ((diff_Front.f kj5 l0 ([] : List ByteArray)).bind fun t240 => (if t240 = true then ((some (([] : List ByteArray) : List ByteArray)).bind fun y241 => (if y241.length + l0.length < 8796093022208 then ((some (y241 ++ l0 : List ByteArray)).bind fun y244 => (if y244.length + l1.length < 8796093022208 then ((diff_Front.f kj5 (y244 ++ l1) l0).bind fun t250 => (if t250 = true then ((diff_Front.f kj5 (l0.take (t235 : Int).toNat) l0).bind fun t252 => (some (t252 == (t235 == (l0.length : Int))))) else (some false))) else (none))) else (none))) else (some false))) else (some false))) else (none)) else (none)) else (some false)) = some r := H
          have A12 := Aside0.mk A120
          clear A120
          by_cases c13 : (t236 == t237) = true
          · rw [if_pos c13] at H
            have c13b0 : (t236 == t237) = true := c13
            (try (have c13b1 : decide (t236 = t237) = true := by simpa using c13))
            (try (have c13b2 : (t236 == t237) = true := by simpa using c13))
            clear c13
            by_cases c14 : 0 ≤ t235
            · rw [if_pos c14] at H
              have c14b0 := eq_true c14
              have c14b1 : decide (0 ≤ t235) = true := decide_eq_true c14
              clear c14
              by_cases c15 : t235 ≤ (l0.length : Int)
              · rw [if_pos c15] at H
                have c15b0 := eq_true c15
                have c15b1 : decide (t235 ≤ (l0.length : Int)) = true := decide_eq_true c15
                clear c15
                replace H := Option.bind_eq_some_iff.mp H
                obtain ⟨t239, A160, H⟩ := H
                replace H : (if t239 = true then ((diff_Front.f kj5 l0 ([] : List ByteArray)).bind fun t240 => (if t240 = true then ((some (([] : List ByteArray) : List ByteArray)).bind fun y241 => (if y241.length + l0.length < 8796093022208 then ((some (y241 ++ l0 : List ByteArray)).bind fun y244 => (if y244.length + l1.length < 8796093022208 then ((diff_Front.f kj5 (y244 ++ l1) l0).bind fun t250 => (if t250 = true then ((diff_Front.f kj5 (l0.take (t235 : Int).toNat) l0).bind fun t252 => (some (t252 == (t235 == (l0.length : Int))))) else (some false))) else (none))) else (none))) else (some false))) else (some false)) = some r := H
                have A16 := Aside0.mk A160
                clear A160
                by_cases c17 : t239 = true
                · subst c17
                  have H1 : ((diff_Front.f kj5 l0 ([] : List ByteArray)).bind fun t240 => (if t240 = true then ((some (([] : List ByteArray) : List ByteArray)).bind fun y241 => (if y241.length + l0.length < 8796093022208 then ((some (y241 ++ l0 : List ByteArray)).bind fun y244 => (if y244.length + l1.length < 8796093022208 then ((diff_Front.f kj5 (y244 ++ l1) l0).bind fun t250 => (if t250 = true then ((diff_Front.f kj5 (l0.take (t235 : Int).toNat) l0).bind fun t252 => (some (t252 == (t235 == (l0.length : Int))))) else (some false))) else (none))) else (none))) else (some false))) = some r := by rw [if_pos rfl] at H; exact H
                  clear H
                  have H := H1
                  clear H1
                  replace H := Option.bind_eq_some_iff.mp H
                  obtain ⟨t240, A180, H⟩ := H
                  replace H : (if t240 = true then ((some (([] : List ByteArray) : List ByteArray)).bind fun y241 => (if y241.length + l0.length < 8796093022208 then ((some (y241 ++ l0 : List ByteArray)).bind fun y244 => (if y244.length + l1.length < 8796093022208 then ((diff_Front.f kj5 (y244 ++ l1) l0).bind fun t250 => (if t250 = true then ((diff_Front.f kj5 (l0.take (t235 : Int).toNat) l0).bind fun t252 => (some (t252 == (t235 == (l0.length : Int))))) else (some false))) else (none))) else (none))) else (some false)) = some r := H
                  have A18 := Aside0.mk A180
                  clear A180
                  by_cases c19 : t240 = true
                  · subst c19
                    have H1 : ((some (([] : List ByteArray) : List ByteArray)).bind fun y241 => (if y241.length + l0.length < 8796093022208 then ((some (y241 ++ l0 : List ByteArray)).bind fun y244 => (if y244.length + l1.length < 8796093022208 then ((diff_Front.f kj5 (y244 ++ l1) l0).bind fun t250 => (if t250 = true then ((diff_Front.f kj5 (l0.take (t235 : Int).toNat) l0).bind fun t252 => (some (t252 == (t235 == (l0.length : Int))))) else (some false))) else (none))) else (none))) = some r := by rw [if_pos rfl] at H; exact H
                    clear H
                    have H := H1
                    clear H1
                    obtain ⟨y241, hy241⟩ : ∃ y_ : List ByteArray, y_ = (([] : List ByteArray)) := ⟨_, rfl⟩
                    replace H : (if y241.length + l0.length < 8796093022208 then ((some (y241 ++ l0 : List ByteArray)).bind fun y244 => (if y244.length + l1.length < 8796093022208 then ((diff_Front.f kj5 (y244 ++ l1) l0).bind fun t250 => (if t250 = true then ((diff_Front.f kj5 (l0.take (t235 : Int).toNat) l0).bind fun t252 => (some (t252 == (t235 == (l0.length : Int))))) else (some false))) else (none))) else (none)) = some r := by first | (rw [hy241]; with_reducible exact H) | (have H2_ := (Option.bind_some _ _).symm.trans H; rw [hy241]; with_reducible exact H2_) | (have H2_ := (Option.bind_some _ _).symm.trans H; with_reducible exact H2_) | with_reducible exact H | (rw [hy241]; exact H) | exact H
                    have Ny241 := Aside0.mk hy241
                    clear hy241
                    by_cases c20 : y241.length + l0.length < 8796093022208
                    · rw [if_pos c20] at H
                      have LMc20 := Aside0.mk c20
                      clear c20
                      obtain ⟨y244, hy244⟩ : ∃ y_ : List ByteArray, y_ = (y241 ++ l0) := ⟨_, rfl⟩
                      replace H : (if y244.length + l1.length < 8796093022208 then ((diff_Front.f kj5 (y244 ++ l1) l0).bind fun t250 => (if t250 = true then ((diff_Front.f kj5 (l0.take (t235 : Int).toNat) l0).bind fun t252 => (some (t252 == (t235 == (l0.length : Int))))) else (some false))) else (none)) = some r := by first | (rw [hy244]; with_reducible exact H) | (have H2_ := (Option.bind_some _ _).symm.trans H; rw [hy244]; with_reducible exact H2_) | (have H2_ := (Option.bind_some _ _).symm.trans H; with_reducible exact H2_) | with_reducible exact H | (rw [hy244]; exact H) | exact H
                      have Ny244 := Aside0.mk hy244
                      clear hy244
                      by_cases c21 : y244.length + l1.length < 8796093022208
                      · rw [if_pos c21] at H
                        have LMc21 := Aside0.mk c21
                        clear c21
                        obtain ⟨y247, hy247⟩ : ∃ y_ : List ByteArray, y_ = (y244 ++ l1) := ⟨_, rfl⟩
                        replace H : ((diff_Front.f kj5 y247 l0).bind fun t250 => (if t250 = true then ((diff_Front.f kj5 (l0.take (t235 : Int).toNat) l0).bind fun t252 => (some (t252 == (t235 == (l0.length : Int))))) else (some false))) = some r := by first | (rw [hy247]; with_reducible exact H) | (have H2_ := (Option.bind_some _ _).symm.trans H; rw [hy247]; with_reducible exact H2_) | (have H2_ := (Option.bind_some _ _).symm.trans H; with_reducible exact H2_) | with_reducible exact H | (rw [hy247]; exact H) | exact H
                        have Ny247 := Aside0.mk hy247
                        clear hy247
                        replace H := Option.bind_eq_some_iff.mp H
                        obtain ⟨t250, A220, H⟩ := H
                        replace H : (if t250 = true then ((diff_Front.f kj5 (l0.take (t235 : Int).toNat) l0).bind fun t252 => (some (t252 == (t235 == (l0.length : Int))))) else (some false)) = some r := H
                        have A22 := Aside0.mk A220
                        clear A220
                        by_cases c23 : t250 = true
                        · subst c23
                          have H1 : ((diff_Front.f kj5 (l0.take (t235 : Int).toNat) l0).bind fun t252 => (some (t252 == (t235 == (l0.length : Int))))) = some r := by rw [if_pos rfl] at H; exact H
                          clear H
                          have H := H1
                          clear H1
                          have c24b0 := eq_true (of_decide_eq_true (by first | (with_reducible assumption) | assumption) : 0 ≤ t235)
                          have c25b0 := eq_true (of_decide_eq_true (by first | (with_reducible assumption) | assumption) : t235 ≤ (l0.length : Int))
                          replace H := Option.bind_eq_some_iff.mp H
                          obtain ⟨t252, A260, H⟩ := H
                          replace H : (some (t252 == (t235 == (l0.length : Int)))) = some r := H
                          have A26 := Aside0.mk A260
                          clear A260
                          obtain rfl := Option.some.inj H
                          obtain ⟨L70, hL700⟩ : ∃ L_, l0.take (t235 : Int).toNat = L_ := ⟨_, rfl⟩
                          have hL70 := Aside0.mk hL700
                          rw [hL700] at A16
                          rw [hL700] at A26
                          clear hL700
                          go_wp2_with (first | ((with_reducible refine gate_callee (f := 20) rfl ?_); refine goesL_ (some 22) rfl rfl Try.func20 (by kernel_rfl) rfl #[.int .i64 a2, .int .i64 (wrap64 ((l0.length : Int) + 1))] rfl (by (try simp only [List.map_toArray, List.map_cons, List.map_nil]); first | done | rfl | (simp only [List.length_drop, List.length_take]; rfl)) ?_; (with_reducible refine (cadencelaw13_within.calls a2 (wrap64 ((l0.length : Int) + 1)) t235 _ A10.out).mono ?_); rintro e w' ⟨rfl, ⟨nd, rfl⟩⟩; refine ⟨_, rfl, ?_⟩) | ((with_reducible refine gate_callee (f := 19) rfl ?_); refine goesL_ (some 25) rfl rfl Try.func19 (by kernel_rfl) rfl #[.slice A0 l0.length c0, .slice A1 l1.length c1] rfl (by (try simp only [List.map_toArray, List.map_cons, List.map_nil]); first | done | rfl | (simp only [List.length_drop, List.length_take]; rfl)) ?_; (with_reducible refine (diff_Front.calls kj5 _ _ l0 _ _ l1 t236 _ ?side1 ?side2 ?side3 ?side4 A11.out).mono ?_); (case side1 => repeat (first | exact (Kd.C_below HR0.out (by repeat (first | (with_reducible first | exact HB.out | apply bA_ | apply bN_ | apply bD_) | exact HB.out))) | (with_reducible refine cA_ ?_ _) | (with_reducible refine cN_ ?_ _) | (with_reducible refine cD_ ?_))); (case side2 => exact HC0.out); (case side3 => repeat (first | exact (Kd.C_below HR1.out (by repeat (first | (with_reducible first | exact HB.out | apply bA_ | apply bN_ | apply bD_) | exact HB.out))) | (with_reducible refine cA_ ?_ _) | (with_reducible refine cN_ ?_ _) | (with_reducible refine cD_ ?_))); (case side4 => exact HC1.out); rintro e w' ⟨rfl, ⟨nd, rfl⟩⟩; refine ⟨_, rfl, ?_⟩) | ((with_reducible refine gate_callee (f := 21) rfl ?_); refine goesL_ (some 28) rfl rfl Try.func21 (by kernel_rfl) rfl #[.slice A0 l0.length c0, .slice A1 l1.length c1] rfl (by (try simp only [List.map_toArray, List.map_cons, List.map_nil]); first | done | rfl | (simp only [List.length_drop, List.length_take]; rfl)) ?_; (with_reducible refine (cadenceref13_Front.calls kj5 _ _ l0 _ _ l1 t237 _ ?side1 ?side2 ?side3 ?side4 A12.out).mono ?_); (case side1 => repeat (first | exact (Kd.C_below HR0.out (by repeat (first | (with_reducible first | exact HB.out | apply bA_ | apply bN_ | apply bD_) | exact HB.out))) | (with_reducible refine cA_ ?_ _) | (with_reducible refine cN_ ?_ _) | (with_reducible refine cD_ ?_))); (case side2 => exact HC0.out); (case side3 => repeat (first | exact (Kd.C_below HR1.out (by repeat (first | (with_reducible first | exact HB.out | apply bA_ | apply bN_ | apply bD_) | exact HB.out))) | (with_reducible refine cA_ ?_ _) | (with_reducible refine cN_ ?_ _) | (with_reducible refine cD_ ?_))); (case side4 => exact HC1.out); rintro e w' ⟨rfl, ⟨nd, rfl⟩⟩; refine ⟨_, rfl, ?_⟩; obtain ⟨i027, hi027, _, hsz27, _⟩ := info_parts info9; obtain ⟨hcut27, hA27, hC27⟩ := print_take_of (P := Try.prog) Value.string (⟨#[]⟩ : ByteArray) 31 9 .i64 Try.underlying31 hi027 hsz27 A0 c0 l0 t235 (of_decide_eq_true (by first | (with_reducible assumption) | assumption)) (of_decide_eq_true (by first | (with_reducible assumption) | assumption)) HC0.out; (try rw [hL70.out] at hcut27 hA27 hC27); have HR238 := Aside0.mk (Kd.C_of_reads (h1 := fun _ => rfl) (hA27 _ (Kd.reads_of_C HR0.out))); have HC238 := Aside0.mk hC27; clear hA27 hC27 hi027 hsz27) | (go_at_call 19; (with_reducible refine (diff_Front.calls kj5 _ _ l0 _ _ L70 true _ ?side1 ?side2 ?side3 ?side4 A16.out).mono ?_); (case side1 => repeat (first | exact (Kd.C_below HR0.out (by repeat (first | (with_reducible first | exact HB.out | apply bA_ | apply bN_ | apply bD_) | exact HB.out))) | (with_reducible refine cA_ ?_ _) | (with_reducible refine cN_ ?_ _) | (with_reducible refine cD_ ?_))); (case side2 => exact HC0.out); (case side3 => repeat (first | exact (Kd.C_below HR238.out (by repeat (first | (with_reducible first | exact HB.out | apply bA_ | apply bN_ | apply bD_) | exact HB.out))) | (with_reducible refine cA_ ?_ _) | (with_reducible refine cN_ ?_ _) | (with_reducible refine cD_ ?_))); (case side4 => exact HC238.out); rintro e w' ⟨rfl, ⟨nd, rfl⟩⟩) | ((with_reducible refine gate_dst (N := 42) rfl ?_); (try (refine gate_guard (by rfl) ?_; dsimp only)); refine Kd.R_lit Kd.string _ 9 ?hg (N := 42) ?hd (xs := ([] : List ByteArray)) (inner := []) (ok := fun _ => True) (okp := fun _ => True) ?hr ?hp (fun _ hk => hk) trivial (Below.refl _ _) (Nat.le_refl _) (by simp) ?_; (case hd => rfl); (case hg => rfl); (case hr => first | (go_simp; done) | (go_simp; rfl)); (case hp => exact (Reps.none _ _)); intro v242 w28 ho29 hb hg_ hnew_; clear hg_ hnew_; (first | rw [← Ny241.out] at ho29 | (simp only [Int.reduceToNat] at ho29; rw [← Ny241.out] at ho29)); have n0_ := Aside0.mk (Kd.R_lower ho29 (below_size (by repeat (first | (with_reducible first | exact HB.out | apply bA_ | apply bN_ | apply bD_) | exact HB.out)))); have n1_ := Aside0.mk (below_step (by repeat (first | (with_reducible first | exact HB.out | apply bA_ | apply bN_ | apply bD_) | exact HB.out)) hb); clear HB; have HO243 := n0_; have HB := n1_; clear n0_ n1_; clear hb ho29) | ((with_reducible refine gate_builtin (b := .append) (xs := #[.tmp 42, .tmp 43]) rfl ?_); (try (refine gate_guard (by rfl) ?_; dsimp only)); at_builtin; refine Kd.R_append_rows Kd.string (w0 := w) w.heap.size rfl (.tmp 42) (.tmp 43) 31 9 (.string ⟨#[]⟩) 16 rfl Try.underlying31 info9 rfl (by decide) (by omega) v242 y241 l0 _ _ _ (fun _ => True) (fun _ => False) rfl rfl ?aO ?aR (fun _ _ h => h) (fun _ h => h.elim) ?aF ?aB ?aS ?aL ?_; (case aR => repeat (first | exact (Kd.C_below HR0.out HB.out) | (with_reducible refine cA_ ?_ _) | (with_reducible refine cN_ ?_ _) | (with_reducible refine cD_ ?_))); (case aB => exact (by repeat (first | (with_reducible first | exact HB.out | apply bA_ | apply bN_ | apply bD_) | exact HB.out))); (case aF => exact (fun _ _ => trivial)); (case aO => exact (by (with_reducible repeat (first | apply rA_ | apply rN_ | apply rD_)); exact HO243.out)); (case aS => exact (below_size (by repeat (first | (with_reducible first | exact HB.out | apply bA_ | apply bN_ | apply bD_) | exact HB.out)))); (case aL => have := LMc20.out; omega); intro v245 w30 ho hb hg hat; rw [← Ny244.out] at ho; have n0_ := Aside0.mk (hb); have n1_ := Aside0.mk (ho); clear HB; clear HO243; have HB := n0_; have HO246 := n1_; clear n0_ n1_; clear ho hb hg hat) | ((with_reducible refine gate_builtin (b := .append) (xs := #[.tmp 44, .tmp 45]) rfl ?_); (try (refine gate_guard (by rfl) ?_; dsimp only)); at_builtin; refine Kd.R_append_rows Kd.string (w0 := w) w.heap.size rfl (.tmp 44) (.tmp 45) 31 9 (.string ⟨#[]⟩) 16 rfl Try.underlying31 info9 rfl (by decide) (by omega) v245 y244 l1 _ _ _ (fun _ => True) (fun _ => False) rfl rfl ?aO ?aR (fun _ _ h => h) (fun _ h => h.elim) ?aF ?aB ?aS ?aL ?_; (case aR => repeat (first | exact (Kd.C_below HR1.out HB.out) | (with_reducible refine cA_ ?_ _) | (with_reducible refine cN_ ?_ _) | (with_reducible refine cD_ ?_))); (case aB => exact (by repeat (first | (with_reducible first | exact HB.out | apply bA_ | apply bN_ | apply bD_) | exact HB.out))); (case aF => exact (fun _ _ => trivial)); (case aO => exact (by (with_reducible repeat (first | apply rA_ | apply rN_ | apply rD_)); exact HO246.out)); (case aS => exact (below_size (by repeat (first | (with_reducible first | exact HB.out | apply bA_ | apply bN_ | apply bD_) | exact HB.out)))); (case aL => have := LMc21.out; omega); intro v248 w31 ho hb hg hat; rw [← Ny247.out] at ho; have n0_ := Aside0.mk (hb); have n1_ := Aside0.mk (ho); clear HB; clear HO246; have HB := n0_; have HO249 := n1_; clear n0_ n1_; clear ho hb hg hat; obtain ⟨Ao32, co32, eo32⟩ := Kd.R_slice HO249.out; subst eo32) | (go_at_call 19; (with_reducible refine (diff_Front.calls kj5 _ _ y247 _ _ l0 true _ ?side1 ?side2 ?side3 ?side4 A22.out).mono ?_); (case side1 => repeat (first | exact (Kd.R_reads' HO249.out).2.2 | (with_reducible refine cA_ ?_ _) | (with_reducible refine cN_ ?_ _) | (with_reducible refine cD_ ?_))); (case side2 => exact (Kd.R_reads' HO249.out).2.1); (case side3 => repeat (first | exact (Kd.C_below HR0.out HB.out) | (with_reducible refine cA_ ?_ _) | (with_reducible refine cN_ ?_ _) | (with_reducible refine cD_ ?_))); (case side4 => exact HC0.out); rintro e w' ⟨rfl, ⟨nd, rfl⟩⟩; obtain ⟨i033, hi033, _, hsz33, _⟩ := info_parts info9; obtain ⟨hcut33, hA33, hC33⟩ := print_take_of (P := Try.prog) Value.string (⟨#[]⟩ : ByteArray) 31 9 .i64 Try.underlying31 hi033 hsz33 A0 c0 l0 t235 (of_decide_eq_true (by first | (with_reducible assumption) | assumption)) (of_decide_eq_true (by first | (with_reducible assumption) | assumption)) HC0.out; (try rw [hL70.out] at hcut33 hA33 hC33); have HR251 := Aside0.mk (Kd.C_of_reads (h1 := fun _ => rfl) (hA33 _ (Kd.reads_of_C HR0.out))); have HC251 := Aside0.mk hC33; clear hA33 hC33 hi033 hsz33) | (go_at_call 19; (with_reducible refine (diff_Front.calls kj5 _ _ L70 _ _ l0 t252 _ ?side1 ?side2 ?side3 ?side4 A26.out).mono ?_); (case side1 => repeat (first | exact (Kd.C_below HR251.out (by repeat (first | (with_reducible first | exact HB.out | apply bA_ | apply bN_ | apply bD_) | exact HB.out))) | (with_reducible refine cA_ ?_ _) | (with_reducible refine cN_ ?_ _) | (with_reducible refine cD_ ?_))); (case side2 => exact HC251.out); (case side3 => repeat (first | exact (Kd.C_below HR0.out (by repeat (first | (with_reducible first | exact HB.out | apply bA_ | apply bN_ | apply bD_) | exact HB.out))) | (with_reducible refine cA_ ?_ _) | (with_reducible refine cN_ ?_ _) | (with_reducible refine cD_ ?_))); (case side4 => exact HC0.out); rintro e w' ⟨rfl, ⟨nd, rfl⟩⟩) | (go_at_call 19; (refine (diff_Front.calls kj5 _ _ l0 _ _ ([] : List ByteArray) true _ ?side1 ?side2 ?side3 ?side4 A18.out).mono ?_); (case side1 => repeat (first | exact (Kd.C_below HR0.out (by repeat (first | (with_reducible first | exact HB.out | apply bA_ | apply bN_ | apply bD_) | exact HB.out))) | (with_reducible refine cA_ ?_ _) | (with_reducible refine cN_ ?_ _) | (with_reducible refine cD_ ?_))); (case side2 => exact HC0.out); (case side3 => exact Kd.C_nil _ _); (case side4 => exact Nat.le_refl _); rintro e w' ⟨rfl, ⟨nd, rfl⟩⟩))
                          go_ret
                          exact ⟨by first | rfl | (simp [errW_none, errW_some] <;> rfl) | (simp [*, errW_none, errW_some] <;> rfl), by repeat (first | (with_reducible first | exact HB.out | apply bA_ | apply bN_ | apply bD_) | exact HB.out)⟩
                        · replace c23 := Bool.eq_false_iff.mpr c23
                          subst c23
                          have H1 : (some false) = some r := by rw [if_neg (show ¬ (false = true) by decide)] at H; exact H
                          clear H
                          have H := H1
                          clear H1
                          obtain rfl := Option.some.inj H
                          obtain ⟨L70, hL700⟩ : ∃ L_, l0.take (t235 : Int).toNat = L_ := ⟨_, rfl⟩
                          have hL70 := Aside0.mk hL700
                          rw [hL700] at A16
                          clear hL700
                          go_wp2_with (first | ((with_reducible refine gate_callee (f := 20) rfl ?_); refine goesL_ (some 22) rfl rfl Try.func20 (by kernel_rfl) rfl #[.int .i64 a2, .int .i64 (wrap64 ((l0.length : Int) + 1))] rfl (by (try simp only [List.map_toArray, List.map_cons, List.map_nil]); first | done | rfl | (simp only [List.length_drop, List.length_take]; rfl)) ?_; (with_reducible refine (cadencelaw13_within.calls a2 (wrap64 ((l0.length : Int) + 1)) t235 _ A10.out).mono ?_); rintro e w' ⟨rfl, ⟨nd, rfl⟩⟩; refine ⟨_, rfl, ?_⟩) | ((with_reducible refine gate_callee (f := 19) rfl ?_); refine goesL_ (some 25) rfl rfl Try.func19 (by kernel_rfl) rfl #[.slice A0 l0.length c0, .slice A1 l1.length c1] rfl (by (try simp only [List.map_toArray, List.map_cons, List.map_nil]); first | done | rfl | (simp only [List.length_drop, List.length_take]; rfl)) ?_; (with_reducible refine (diff_Front.calls kj5 _ _ l0 _ _ l1 t236 _ ?side1 ?side2 ?side3 ?side4 A11.out).mono ?_); (case side1 => repeat (first | exact (Kd.C_below HR0.out (by repeat (first | (with_reducible first | exact HB.out | apply bA_ | apply bN_ | apply bD_) | exact HB.out))) | (with_reducible refine cA_ ?_ _) | (with_reducible refine cN_ ?_ _) | (with_reducible refine cD_ ?_))); (case side2 => exact HC0.out); (case side3 => repeat (first | exact (Kd.C_below HR1.out (by repeat (first | (with_reducible first | exact HB.out | apply bA_ | apply bN_ | apply bD_) | exact HB.out))) | (with_reducible refine cA_ ?_ _) | (with_reducible refine cN_ ?_ _) | (with_reducible refine cD_ ?_))); (case side4 => exact HC1.out); rintro e w' ⟨rfl, ⟨nd, rfl⟩⟩; refine ⟨_, rfl, ?_⟩) | ((with_reducible refine gate_callee (f := 21) rfl ?_); refine goesL_ (some 28) rfl rfl Try.func21 (by kernel_rfl) rfl #[.slice A0 l0.length c0, .slice A1 l1.length c1] rfl (by (try simp only [List.map_toArray, List.map_cons, List.map_nil]); first | done | rfl | (simp only [List.length_drop, List.length_take]; rfl)) ?_; (with_reducible refine (cadenceref13_Front.calls kj5 _ _ l0 _ _ l1 t237 _ ?side1 ?side2 ?side3 ?side4 A12.out).mono ?_); (case side1 => repeat (first | exact (Kd.C_below HR0.out (by repeat (first | (with_reducible first | exact HB.out | apply bA_ | apply bN_ | apply bD_) | exact HB.out))) | (with_reducible refine cA_ ?_ _) | (with_reducible refine cN_ ?_ _) | (with_reducible refine cD_ ?_))); (case side2 => exact HC0.out); (case side3 => repeat (first | exact (Kd.C_below HR1.out (by repeat (first | (with_reducible first | exact HB.out | apply bA_ | apply bN_ | apply bD_) | exact HB.out))) | (with_reducible refine cA_ ?_ _) | (with_reducible refine cN_ ?_ _) | (with_reducible refine cD_ ?_))); (case side4 => exact HC1.out); rintro e w' ⟨rfl, ⟨nd, rfl⟩⟩; refine ⟨_, rfl, ?_⟩; obtain ⟨i034, hi034, _, hsz34, _⟩ := info_parts info9; obtain ⟨hcut34, hA34, hC34⟩ := print_take_of (P := Try.prog) Value.string (⟨#[]⟩ : ByteArray) 31 9 .i64 Try.underlying31 hi034 hsz34 A0 c0 l0 t235 (of_decide_eq_true (by first | (with_reducible assumption) | assumption)) (of_decide_eq_true (by first | (with_reducible assumption) | assumption)) HC0.out; (try rw [hL70.out] at hcut34 hA34 hC34); have HR238 := Aside0.mk (Kd.C_of_reads (h1 := fun _ => rfl) (hA34 _ (Kd.reads_of_C HR0.out))); have HC238 := Aside0.mk hC34; clear hA34 hC34 hi034 hsz34) | (go_at_call 19; (with_reducible refine (diff_Front.calls kj5 _ _ l0 _ _ L70 true _ ?side1 ?side2 ?side3 ?side4 A16.out).mono ?_); (case side1 => repeat (first | exact (Kd.C_below HR0.out (by repeat (first | (with_reducible first | exact HB.out | apply bA_ | apply bN_ | apply bD_) | exact HB.out))) | (with_reducible refine cA_ ?_ _) | (with_reducible refine cN_ ?_ _) | (with_reducible refine cD_ ?_))); (case side2 => exact HC0.out); (case side3 => repeat (first | exact (Kd.C_below HR238.out (by repeat (first | (with_reducible first | exact HB.out | apply bA_ | apply bN_ | apply bD_) | exact HB.out))) | (with_reducible refine cA_ ?_ _) | (with_reducible refine cN_ ?_ _) | (with_reducible refine cD_ ?_))); (case side4 => exact HC238.out); rintro e w' ⟨rfl, ⟨nd, rfl⟩⟩) | ((with_reducible refine gate_dst (N := 42) rfl ?_); (try (refine gate_guard (by rfl) ?_; dsimp only)); refine Kd.R_lit Kd.string _ 9 ?hg (N := 42) ?hd (xs := ([] : List ByteArray)) (inner := []) (ok := fun _ => True) (okp := fun _ => True) ?hr ?hp (fun _ hk => hk) trivial (Below.refl _ _) (Nat.le_refl _) (by simp) ?_; (case hd => rfl); (case hg => rfl); (case hr => first | (go_simp; done) | (go_simp; rfl)); (case hp => exact (Reps.none _ _)); intro v242 w35 ho36 hb hg_ hnew_; clear hg_ hnew_; (first | rw [← Ny241.out] at ho36 | (simp only [Int.reduceToNat] at ho36; rw [← Ny241.out] at ho36)); have n0_ := Aside0.mk (Kd.R_lower ho36 (below_size (by repeat (first | (with_reducible first | exact HB.out | apply bA_ | apply bN_ | apply bD_) | exact HB.out)))); have n1_ := Aside0.mk (below_step (by repeat (first | (with_reducible first | exact HB.out | apply bA_ | apply bN_ | apply bD_) | exact HB.out)) hb); clear HB; have HO243 := n0_; have HB := n1_; clear n0_ n1_; clear hb ho36) | ((with_reducible refine gate_builtin (b := .append) (xs := #[.tmp 42, .tmp 43]) rfl ?_); (try (refine gate_guard (by rfl) ?_; dsimp only)); at_builtin; refine Kd.R_append_rows Kd.string (w0 := w) w.heap.size rfl (.tmp 42) (.tmp 43) 31 9 (.string ⟨#[]⟩) 16 rfl Try.underlying31 info9 rfl (by decide) (by omega) v242 y241 l0 _ _ _ (fun _ => True) (fun _ => False) rfl rfl ?aO ?aR (fun _ _ h => h) (fun _ h => h.elim) ?aF ?aB ?aS ?aL ?_; (case aR => repeat (first | exact (Kd.C_below HR0.out HB.out) | (with_reducible refine cA_ ?_ _) | (with_reducible refine cN_ ?_ _) | (with_reducible refine cD_ ?_))); (case aB => exact (by repeat (first | (with_reducible first | exact HB.out | apply bA_ | apply bN_ | apply bD_) | exact HB.out))); (case aF => exact (fun _ _ => trivial)); (case aO => exact (by (with_reducible repeat (first | apply rA_ | apply rN_ | apply rD_)); exact HO243.out)); (case aS => exact (below_size (by repeat (first | (with_reducible first | exact HB.out | apply bA_ | apply bN_ | apply bD_) | exact HB.out)))); (case aL => have := LMc20.out; omega); intro v245 w37 ho hb hg hat; rw [← Ny244.out] at ho; have n0_ := Aside0.mk (hb); have n1_ := Aside0.mk (ho); clear HB; clear HO243; have HB := n0_; have HO246 := n1_; clear n0_ n1_; clear ho hb hg hat) | ((with_reducible refine gate_builtin (b := .append) (xs := #[.tmp 44, .tmp 45]) rfl ?_); (try (refine gate_guard (by rfl) ?_; dsimp only)); at_builtin; refine Kd.R_append_rows Kd.string (w0 := w) w.heap.size rfl (.tmp 44) (.tmp 45) 31 9 (.string ⟨#[]⟩) 16 rfl Try.underlying31 info9 rfl (by decide) (by omega) v245 y244 l1 _ _ _ (fun _ => True) (fun _ => False) rfl rfl ?aO ?aR (fun _ _ h => h) (fun _ h => h.elim) ?aF ?aB ?aS ?aL ?_; (case aR => repeat (first | exact (Kd.C_below HR1.out HB.out) | (with_reducible refine cA_ ?_ _) | (with_reducible refine cN_ ?_ _) | (with_reducible refine cD_ ?_))); (case aB => exact (by repeat (first | (with_reducible first | exact HB.out | apply bA_ | apply bN_ | apply bD_) | exact HB.out))); (case aF => exact (fun _ _ => trivial)); (case aO => exact (by (with_reducible repeat (first | apply rA_ | apply rN_ | apply rD_)); exact HO246.out)); (case aS => exact (below_size (by repeat (first | (with_reducible first | exact HB.out | apply bA_ | apply bN_ | apply bD_) | exact HB.out)))); (case aL => have := LMc21.out; omega); intro v248 w38 ho hb hg hat; rw [← Ny247.out] at ho; have n0_ := Aside0.mk (hb); have n1_ := Aside0.mk (ho); clear HB; clear HO246; have HB := n0_; have HO249 := n1_; clear n0_ n1_; clear ho hb hg hat; obtain ⟨Ao39, co39, eo39⟩ := Kd.R_slice HO249.out; subst eo39) | (go_at_call 19; (with_reducible refine (diff_Front.calls kj5 _ _ y247 _ _ l0 false _ ?side1 ?side2 ?side3 ?side4 A22.out).mono ?_); (case side1 => repeat (first | exact (Kd.R_reads' HO249.out).2.2 | (with_reducible refine cA_ ?_ _) | (with_reducible refine cN_ ?_ _) | (with_reducible refine cD_ ?_))); (case side2 => exact (Kd.R_reads' HO249.out).2.1); (case side3 => repeat (first | exact (Kd.C_below HR0.out HB.out) | (with_reducible refine cA_ ?_ _) | (with_reducible refine cN_ ?_ _) | (with_reducible refine cD_ ?_))); (case side4 => exact HC0.out); rintro e w' ⟨rfl, ⟨nd, rfl⟩⟩) | (go_at_call 19; (refine (diff_Front.calls kj5 _ _ l0 _ _ ([] : List ByteArray) true _ ?side1 ?side2 ?side3 ?side4 A18.out).mono ?_); (case side1 => repeat (first | exact (Kd.C_below HR0.out (by repeat (first | (with_reducible first | exact HB.out | apply bA_ | apply bN_ | apply bD_) | exact HB.out))) | (with_reducible refine cA_ ?_ _) | (with_reducible refine cN_ ?_ _) | (with_reducible refine cD_ ?_))); (case side2 => exact HC0.out); (case side3 => exact Kd.C_nil _ _); (case side4 => exact Nat.le_refl _); rintro e w' ⟨rfl, ⟨nd, rfl⟩⟩))
                          go_ret
                          exact ⟨by first | rfl | (simp [errW_none, errW_some] <;> rfl) | (simp [*, errW_none, errW_some] <;> rfl), by repeat (first | (with_reducible first | exact HB.out | apply bA_ | apply bN_ | apply bD_) | exact HB.out)⟩
                      · rw [if_neg c21] at H
                        exact absurd H (by simp)
                    · rw [if_neg c20] at H
                      exact absurd H (by simp)
                  · replace c19 := Bool.eq_false_iff.mpr c19
                    subst c19
                    have H1 : (some false) = some r := by rw [if_neg (show ¬ (false = true) by decide)] at H; exact H
                    clear H
                    have H := H1
                    clear H1
                    obtain rfl := Option.some.inj H
                    obtain ⟨L70, hL700⟩ : ∃ L_, l0.take (t235 : Int).toNat = L_ := ⟨_, rfl⟩
                    have hL70 := Aside0.mk hL700
                    rw [hL700] at A16
                    clear hL700
                    go_wp2_with (first | ((with_reducible refine gate_callee (f := 20) rfl ?_); refine goesL_ (some 22) rfl rfl Try.func20 (by kernel_rfl) rfl #[.int .i64 a2, .int .i64 (wrap64 ((l0.length : Int) + 1))] rfl (by (try simp only [List.map_toArray, List.map_cons, List.map_nil]); first | done | rfl | (simp only [List.length_drop, List.length_take]; rfl)) ?_; (with_reducible refine (cadencelaw13_within.calls a2 (wrap64 ((l0.length : Int) + 1)) t235 _ A10.out).mono ?_); rintro e w' ⟨rfl, ⟨nd, rfl⟩⟩; refine ⟨_, rfl, ?_⟩) | ((with_reducible refine gate_callee (f := 19) rfl ?_); refine goesL_ (some 25) rfl rfl Try.func19 (by kernel_rfl) rfl #[.slice A0 l0.length c0, .slice A1 l1.length c1] rfl (by (try simp only [List.map_toArray, List.map_cons, List.map_nil]); first | done | rfl | (simp only [List.length_drop, List.length_take]; rfl)) ?_; (with_reducible refine (diff_Front.calls kj5 _ _ l0 _ _ l1 t236 _ ?side1 ?side2 ?side3 ?side4 A11.out).mono ?_); (case side1 => repeat (first | exact (Kd.C_below HR0.out (by repeat (first | (with_reducible first | exact HB.out | apply bA_ | apply bN_ | apply bD_) | exact HB.out))) | (with_reducible refine cA_ ?_ _) | (with_reducible refine cN_ ?_ _) | (with_reducible refine cD_ ?_))); (case side2 => exact HC0.out); (case side3 => repeat (first | exact (Kd.C_below HR1.out (by repeat (first | (with_reducible first | exact HB.out | apply bA_ | apply bN_ | apply bD_) | exact HB.out))) | (with_reducible refine cA_ ?_ _) | (with_reducible refine cN_ ?_ _) | (with_reducible refine cD_ ?_))); (case side4 => exact HC1.out); rintro e w' ⟨rfl, ⟨nd, rfl⟩⟩; refine ⟨_, rfl, ?_⟩) | ((with_reducible refine gate_callee (f := 21) rfl ?_); refine goesL_ (some 28) rfl rfl Try.func21 (by kernel_rfl) rfl #[.slice A0 l0.length c0, .slice A1 l1.length c1] rfl (by (try simp only [List.map_toArray, List.map_cons, List.map_nil]); first | done | rfl | (simp only [List.length_drop, List.length_take]; rfl)) ?_; (with_reducible refine (cadenceref13_Front.calls kj5 _ _ l0 _ _ l1 t237 _ ?side1 ?side2 ?side3 ?side4 A12.out).mono ?_); (case side1 => repeat (first | exact (Kd.C_below HR0.out (by repeat (first | (with_reducible first | exact HB.out | apply bA_ | apply bN_ | apply bD_) | exact HB.out))) | (with_reducible refine cA_ ?_ _) | (with_reducible refine cN_ ?_ _) | (with_reducible refine cD_ ?_))); (case side2 => exact HC0.out); (case side3 => repeat (first | exact (Kd.C_below HR1.out (by repeat (first | (with_reducible first | exact HB.out | apply bA_ | apply bN_ | apply bD_) | exact HB.out))) | (with_reducible refine cA_ ?_ _) | (with_reducible refine cN_ ?_ _) | (with_reducible refine cD_ ?_))); (case side4 => exact HC1.out); rintro e w' ⟨rfl, ⟨nd, rfl⟩⟩; refine ⟨_, rfl, ?_⟩; obtain ⟨i040, hi040, _, hsz40, _⟩ := info_parts info9; obtain ⟨hcut40, hA40, hC40⟩ := print_take_of (P := Try.prog) Value.string (⟨#[]⟩ : ByteArray) 31 9 .i64 Try.underlying31 hi040 hsz40 A0 c0 l0 t235 (of_decide_eq_true (by first | (with_reducible assumption) | assumption)) (of_decide_eq_true (by first | (with_reducible assumption) | assumption)) HC0.out; (try rw [hL70.out] at hcut40 hA40 hC40); have HR238 := Aside0.mk (Kd.C_of_reads (h1 := fun _ => rfl) (hA40 _ (Kd.reads_of_C HR0.out))); have HC238 := Aside0.mk hC40; clear hA40 hC40 hi040 hsz40) | (go_at_call 19; (with_reducible refine (diff_Front.calls kj5 _ _ l0 _ _ L70 true _ ?side1 ?side2 ?side3 ?side4 A16.out).mono ?_); (case side1 => repeat (first | exact (Kd.C_below HR0.out (by repeat (first | (with_reducible first | exact HB.out | apply bA_ | apply bN_ | apply bD_) | exact HB.out))) | (with_reducible refine cA_ ?_ _) | (with_reducible refine cN_ ?_ _) | (with_reducible refine cD_ ?_))); (case side2 => exact HC0.out); (case side3 => repeat (first | exact (Kd.C_below HR238.out (by repeat (first | (with_reducible first | exact HB.out | apply bA_ | apply bN_ | apply bD_) | exact HB.out))) | (with_reducible refine cA_ ?_ _) | (with_reducible refine cN_ ?_ _) | (with_reducible refine cD_ ?_))); (case side4 => exact HC238.out); rintro e w' ⟨rfl, ⟨nd, rfl⟩⟩) | (go_at_call 19; (refine (diff_Front.calls kj5 _ _ l0 _ _ ([] : List ByteArray) false _ ?side1 ?side2 ?side3 ?side4 A18.out).mono ?_); (case side1 => repeat (first | exact (Kd.C_below HR0.out (by repeat (first | (with_reducible first | exact HB.out | apply bA_ | apply bN_ | apply bD_) | exact HB.out))) | (with_reducible refine cA_ ?_ _) | (with_reducible refine cN_ ?_ _) | (with_reducible refine cD_ ?_))); (case side2 => exact HC0.out); (case side3 => exact Kd.C_nil _ _); (case side4 => exact Nat.le_refl _); rintro e w' ⟨rfl, ⟨nd, rfl⟩⟩))
                    go_ret
                    exact ⟨by first | rfl | (simp [errW_none, errW_some] <;> rfl) | (simp [*, errW_none, errW_some] <;> rfl), by repeat (first | (with_reducible first | exact HB.out | apply bA_ | apply bN_ | apply bD_) | exact HB.out)⟩
                · replace c17 := Bool.eq_false_iff.mpr c17
                  subst c17
                  have H1 : (some false) = some r := by rw [if_neg (show ¬ (false = true) by decide)] at H; exact H
                  clear H
                  have H := H1
                  clear H1
                  obtain rfl := Option.some.inj H
                  obtain ⟨L70, hL700⟩ : ∃ L_, l0.take (t235 : Int).toNat = L_ := ⟨_, rfl⟩
                  have hL70 := Aside0.mk hL700
                  rw [hL700] at A16
                  clear hL700
                  go_wp2_with (first | ((with_reducible refine gate_callee (f := 20) rfl ?_); refine goesL_ (some 22) rfl rfl Try.func20 (by kernel_rfl) rfl #[.int .i64 a2, .int .i64 (wrap64 ((l0.length : Int) + 1))] rfl (by (try simp only [List.map_toArray, List.map_cons, List.map_nil]); first | done | rfl | (simp only [List.length_drop, List.length_take]; rfl)) ?_; (with_reducible refine (cadencelaw13_within.calls a2 (wrap64 ((l0.length : Int) + 1)) t235 _ A10.out).mono ?_); rintro e w' ⟨rfl, ⟨nd, rfl⟩⟩; refine ⟨_, rfl, ?_⟩) | ((with_reducible refine gate_callee (f := 19) rfl ?_); refine goesL_ (some 25) rfl rfl Try.func19 (by kernel_rfl) rfl #[.slice A0 l0.length c0, .slice A1 l1.length c1] rfl (by (try simp only [List.map_toArray, List.map_cons, List.map_nil]); first | done | rfl | (simp only [List.length_drop, List.length_take]; rfl)) ?_; (with_reducible refine (diff_Front.calls kj5 _ _ l0 _ _ l1 t236 _ ?side1 ?side2 ?side3 ?side4 A11.out).mono ?_); (case side1 => repeat (first | exact (Kd.C_below HR0.out (by repeat (first | (with_reducible first | exact HB.out | apply bA_ | apply bN_ | apply bD_) | exact HB.out))) | (with_reducible refine cA_ ?_ _) | (with_reducible refine cN_ ?_ _) | (with_reducible refine cD_ ?_))); (case side2 => exact HC0.out); (case side3 => repeat (first | exact (Kd.C_below HR1.out (by repeat (first | (with_reducible first | exact HB.out | apply bA_ | apply bN_ | apply bD_) | exact HB.out))) | (with_reducible refine cA_ ?_ _) | (with_reducible refine cN_ ?_ _) | (with_reducible refine cD_ ?_))); (case side4 => exact HC1.out); rintro e w' ⟨rfl, ⟨nd, rfl⟩⟩; refine ⟨_, rfl, ?_⟩) | ((with_reducible refine gate_callee (f := 21) rfl ?_); refine goesL_ (some 28) rfl rfl Try.func21 (by kernel_rfl) rfl #[.slice A0 l0.length c0, .slice A1 l1.length c1] rfl (by (try simp only [List.map_toArray, List.map_cons, List.map_nil]); first | done | rfl | (simp only [List.length_drop, List.length_take]; rfl)) ?_; (with_reducible refine (cadenceref13_Front.calls kj5 _ _ l0 _ _ l1 t237 _ ?side1 ?side2 ?side3 ?side4 A12.out).mono ?_); (case side1 => repeat (first | exact (Kd.C_below HR0.out (by repeat (first | (with_reducible first | exact HB.out | apply bA_ | apply bN_ | apply bD_) | exact HB.out))) | (with_reducible refine cA_ ?_ _) | (with_reducible refine cN_ ?_ _) | (with_reducible refine cD_ ?_))); (case side2 => exact HC0.out); (case side3 => repeat (first | exact (Kd.C_below HR1.out (by repeat (first | (with_reducible first | exact HB.out | apply bA_ | apply bN_ | apply bD_) | exact HB.out))) | (with_reducible refine cA_ ?_ _) | (with_reducible refine cN_ ?_ _) | (with_reducible refine cD_ ?_))); (case side4 => exact HC1.out); rintro e w' ⟨rfl, ⟨nd, rfl⟩⟩; refine ⟨_, rfl, ?_⟩; obtain ⟨i041, hi041, _, hsz41, _⟩ := info_parts info9; obtain ⟨hcut41, hA41, hC41⟩ := print_take_of (P := Try.prog) Value.string (⟨#[]⟩ : ByteArray) 31 9 .i64 Try.underlying31 hi041 hsz41 A0 c0 l0 t235 (of_decide_eq_true (by first | (with_reducible assumption) | assumption)) (of_decide_eq_true (by first | (with_reducible assumption) | assumption)) HC0.out; (try rw [hL70.out] at hcut41 hA41 hC41); have HR238 := Aside0.mk (Kd.C_of_reads (h1 := fun _ => rfl) (hA41 _ (Kd.reads_of_C HR0.out))); have HC238 := Aside0.mk hC41; clear hA41 hC41 hi041 hsz41) | (go_at_call 19; (with_reducible refine (diff_Front.calls kj5 _ _ l0 _ _ L70 false _ ?side1 ?side2 ?side3 ?side4 A16.out).mono ?_); (case side1 => repeat (first | exact (Kd.C_below HR0.out (by repeat (first | (with_reducible first | exact HB.out | apply bA_ | apply bN_ | apply bD_) | exact HB.out))) | (with_reducible refine cA_ ?_ _) | (with_reducible refine cN_ ?_ _) | (with_reducible refine cD_ ?_))); (case side2 => exact HC0.out); (case side3 => repeat (first | exact (Kd.C_below HR238.out (by repeat (first | (with_reducible first | exact HB.out | apply bA_ | apply bN_ | apply bD_) | exact HB.out))) | (with_reducible refine cA_ ?_ _) | (with_reducible refine cN_ ?_ _) | (with_reducible refine cD_ ?_))); (case side4 => exact HC238.out); rintro e w' ⟨rfl, ⟨nd, rfl⟩⟩))
                  go_ret
                  exact ⟨by first | rfl | (simp [errW_none, errW_some] <;> rfl) | (simp [*, errW_none, errW_some] <;> rfl), by repeat (first | (with_reducible first | exact HB.out | apply bA_ | apply bN_ | apply bD_) | exact HB.out)⟩
              · rw [if_neg c15] at H
                exact absurd H (by simp)
            · rw [if_neg c14] at H
              exact absurd H (by simp)
          · rw [if_neg c13] at H
            have c13b0 : (t236 == t237) = false := by simpa using c13
            (try (have c13b1 : decide (t236 = t237) = false := by simpa using c13))
            (try (have c13b2 : (t236 == t237) = false := by simpa using c13))
            (try (have c13b3 : ¬ (t236 = t237) := by simpa using c13))
            clear c13
            obtain rfl := Option.some.inj H
            go_wp2_with (first | ((with_reducible refine gate_callee (f := 20) rfl ?_); refine goesL_ (some 22) rfl rfl Try.func20 (by kernel_rfl) rfl #[.int .i64 a2, .int .i64 (wrap64 ((l0.length : Int) + 1))] rfl (by (try simp only [List.map_toArray, List.map_cons, List.map_nil]); first | done | rfl | (simp only [List.length_drop, List.length_take]; rfl)) ?_; (with_reducible refine (cadencelaw13_within.calls a2 (wrap64 ((l0.length : Int) + 1)) t235 _ A10.out).mono ?_); rintro e w' ⟨rfl, ⟨nd, rfl⟩⟩; refine ⟨_, rfl, ?_⟩) | ((with_reducible refine gate_callee (f := 19) rfl ?_); refine goesL_ (some 25) rfl rfl Try.func19 (by kernel_rfl) rfl #[.slice A0 l0.length c0, .slice A1 l1.length c1] rfl (by (try simp only [List.map_toArray, List.map_cons, List.map_nil]); first | done | rfl | (simp only [List.length_drop, List.length_take]; rfl)) ?_; (with_reducible refine (diff_Front.calls kj5 _ _ l0 _ _ l1 t236 _ ?side1 ?side2 ?side3 ?side4 A11.out).mono ?_); (case side1 => repeat (first | exact (Kd.C_below HR0.out (by repeat (first | (with_reducible first | exact HB.out | apply bA_ | apply bN_ | apply bD_) | exact HB.out))) | (with_reducible refine cA_ ?_ _) | (with_reducible refine cN_ ?_ _) | (with_reducible refine cD_ ?_))); (case side2 => exact HC0.out); (case side3 => repeat (first | exact (Kd.C_below HR1.out (by repeat (first | (with_reducible first | exact HB.out | apply bA_ | apply bN_ | apply bD_) | exact HB.out))) | (with_reducible refine cA_ ?_ _) | (with_reducible refine cN_ ?_ _) | (with_reducible refine cD_ ?_))); (case side4 => exact HC1.out); rintro e w' ⟨rfl, ⟨nd, rfl⟩⟩; refine ⟨_, rfl, ?_⟩) | ((with_reducible refine gate_callee (f := 21) rfl ?_); refine goesL_ (some 28) rfl rfl Try.func21 (by kernel_rfl) rfl #[.slice A0 l0.length c0, .slice A1 l1.length c1] rfl (by (try simp only [List.map_toArray, List.map_cons, List.map_nil]); first | done | rfl | (simp only [List.length_drop, List.length_take]; rfl)) ?_; (with_reducible refine (cadenceref13_Front.calls kj5 _ _ l0 _ _ l1 t237 _ ?side1 ?side2 ?side3 ?side4 A12.out).mono ?_); (case side1 => repeat (first | exact (Kd.C_below HR0.out (by repeat (first | (with_reducible first | exact HB.out | apply bA_ | apply bN_ | apply bD_) | exact HB.out))) | (with_reducible refine cA_ ?_ _) | (with_reducible refine cN_ ?_ _) | (with_reducible refine cD_ ?_))); (case side2 => exact HC0.out); (case side3 => repeat (first | exact (Kd.C_below HR1.out (by repeat (first | (with_reducible first | exact HB.out | apply bA_ | apply bN_ | apply bD_) | exact HB.out))) | (with_reducible refine cA_ ?_ _) | (with_reducible refine cN_ ?_ _) | (with_reducible refine cD_ ?_))); (case side4 => exact HC1.out); rintro e w' ⟨rfl, ⟨nd, rfl⟩⟩; refine ⟨_, rfl, ?_⟩))
            go_ret
            exact ⟨by first | rfl | (simp [errW_none, errW_some] <;> rfl) | (simp [*, errW_none, errW_some] <;> rfl), by repeat (first | (with_reducible first | exact HB.out | apply bA_ | apply bN_ | apply bD_) | exact HB.out)⟩
  · replace c5 := Bool.eq_false_iff.mpr c5
    subst c5
    have H1 : (some false) = some r := by rw [if_neg (show ¬ (false = true) by decide)] at H; exact H
    clear H
    have H := H1
    clear H1
    obtain rfl := Option.some.inj H
    go_enter Try.func6, Try.ntmps6
    go_wp2_with (first | ((with_reducible refine gate_callee (f := 8) rfl ?_); refine goesL_ (some 8) rfl rfl Try.func8 (by kernel_rfl) rfl #[] rfl (by (try simp only [List.map_toArray, List.map_cons, List.map_nil]); first | done | rfl | (simp only [List.length_drop, List.length_take]; rfl)) ?_; (with_reducible refine (cadencelaw13_known.calls k  false _ A4.out).mono ?_); rintro e w42 ⟨rfl, hb⟩; refine ⟨_, rfl, ?_⟩; have n0_ := Aside0.mk (below_step (by repeat (first | (with_reducible first | exact HB.out | apply bA_ | apply bN_ | apply bD_) | exact HB.out)) hb); clear HB; have HB := n0_; clear n0_; (try clear hb); (try clear hb2); (try clear hk); (try clear hi)))
    go_ret
    exact ⟨by first | rfl | (simp [errW_none, errW_some] <;> rfl) | (simp [*, errW_none, errW_some] <;> rfl), by repeat (first | (with_reducible first | exact HB.out | apply bA_ | apply bN_ | apply bD_) | exact HB.out)⟩

end Go.Proofs.Ytbhgocpenbibgaa.PX
/- DiffFront: what its printed function comes to. -/
set_option linter.unusedVariables false
namespace Go.Proofs.Ytbhgocpenbibgaa.PX
open Go.RowKit Go.Proofs.YtbhgocpenbibgaaW.PrintWords Go.Proofs.YtbhgocpenbibgaaW.PrintLast Go.Proofs.YtbhgocpenbibgaaW.PrintMore Go.Proofs.Ytbhgocpenbibgaa
theorem within13 (a : Int) {n : Int} (h0 : 0 < n) (h1 : n ≤ 1000000) : ∃ r, 0 ≤ r ∧ r < n ∧ cadencelaw13_within.f a n = some r := by
  obtain ⟨r, r0, r1, h⟩ := tmod_in a h0 h1
  refine ⟨r, r0, r1, ?_⟩
  unfold cadencelaw13_within.f
  rw [if_neg (by omega), ← h]
  split <;> rfl
theorem diffFront_ev (p q : List ByteArray) (n : Int) : Ev (fun k => cadencelaw13_DiffFront.f k p q n) true := by
  have out : Ev (fun k => cadencelaw13_DiffFront.j0 k p q n true) true := by
    refine Ev.step (f := fun _ => some true) (fun k => ?_) (Ev.now _)
    simp only [cadencelaw13_DiffFront.j0]
    rw [if_pos trivial]
  refine Ev.congr (f := fun k => (cadencelaw13_known.f k).bind fun t => if t = true then (if (p.length : Int) > 20 then cadencelaw13_DiffFront.j0 k p q n true else cadencelaw13_DiffFront.j0 k p q n (decide ((q.length : Int) > 20))) else some false) (fun k => by unfold cadencelaw13_DiffFront.f; rfl) (Ev.bind known_ev (Ev.congr (fun k => if_pos rfl) ?_))
  by_cases hp : p.length ≤ 20
  · refine Ev.congr (fun k => if_neg (by omega)) ?_
    by_cases hq : q.length ≤ 20
    · rw [decide_eq_false (by omega)]
      obtain ⟨r, r0, r1, hr⟩ := within13 n (n := (p.length : Int) + 1) (by omega) (by omega)
      have f1 := front_ev p q (by omega)
      have f2 := refFront_ev p q (by omega)
      have f3 := front_ev p (p.take r.toNat) (by rw [List.length_take]; omega)
      have f4 := front_ev p [] (by simp)
      have f5 := front_ev (p ++ q) p (by omega)
      have f6 := front_ev (p.take r.toNat) p (by omega)
      rw [decide_eq_true (List.take_prefix _ _)] at f3
      rw [decide_eq_true List.nil_prefix] at f4
      rw [decide_eq_true (List.prefix_append _ _)] at f5
      have h7 : (decide (p <+: p.take r.toNat) == (r == (p.length : Int))) = true := by
        rw [beq_iff_eq, Bool.eq_iff_iff, decide_eq_true_eq, beq_iff_eq]
        constructor
        · intro h
          have := h.length_le
          rw [List.length_take] at this
          omega
        · intro h
          rw [List.take_of_length_le (by omega)]
          exact List.prefix_refl _
      obtain ⟨K1, h1⟩ := f1
      obtain ⟨K2, h2⟩ := f2
      obtain ⟨K3, h3⟩ := f3
      obtain ⟨K4, h4⟩ := f4
      obtain ⟨K5, h5⟩ := f5
      obtain ⟨K6, h6⟩ := f6
      refine ⟨K1 + K2 + K3 + K4 + K5 + K6 + 1, fun k hk => ?_⟩
      obtain ⟨k, rfl⟩ : ∃ m, k = m + 1 := ⟨k - 1, by omega⟩
      replace h1 : diff_Front.f k p q = some (decide (q <+: p)) := h1 k (by omega)
      replace h2 : cadenceref13_Front.f k p q = some (decide (q <+: p)) := h2 k (by omega)
      replace h3 : diff_Front.f k p (p.take r.toNat) = some true := h3 k (by omega)
      replace h4 : diff_Front.f k p [] = some true := h4 k (by omega)
      replace h5 : diff_Front.f k (p ++ q) p = some true := h5 k (by omega)
      replace h6 : diff_Front.f k (p.take r.toNat) p = some (decide (p <+: p.take r.toNat)) := h6 k (by omega)
      show cadencelaw13_DiffFront.j0 (k + 1) p q n false = some true
      simp only [cadencelaw13_DiffFront.j0]
      rw [if_neg Bool.false_ne_true, wrap_id (by omega) (by omega), hr, Option.bind_some, h1, Option.bind_some, h2, Option.bind_some, if_pos (by simp), if_pos r0, if_pos (by omega), h3, Option.bind_some, if_pos rfl, h4, Option.bind_some, if_pos rfl, Option.bind_some, List.length_nil, if_pos (by omega), Option.bind_some, List.nil_append, if_pos (by omega), h5, Option.bind_some, if_pos rfl, h6, Option.bind_some, h7]
    · rw [decide_eq_true (by omega)]
      exact out
  · exact Ev.congr (fun k => if_pos (by omega)) out
end Go.Proofs.Ytbhgocpenbibgaa.PX
/- Rows of strings, sets of names, as they come in. -/
set_option linter.unusedVariables false
set_option linter.unusedSimpArgs false
namespace Go.Proofs.Ytbhgocpenbibgaa.PX
open Go.RowKit Go.Proofs.YtbhgocpenbibgaaW.PrintWords Go.Proofs.YtbhgocpenbibgaaW.PrintLast Go.Proofs.YtbhgocpenbibgaaW.PrintMore Go.ChangeShapes Go.WideShapes Go.ChangeAt Go.Deep
section
variable {H : Type} {enc : TypeId × Value → H} {w : World}
theorem open_strsC {fuel : Nat} {cs : List Value} {x : DataW H × List MemPlace} (h : DataW.trod enc Try.prog w 0 (fun _ => true) true fuel 31 cs = some x)
    (hw : ∀ n ∈ x.1.weights Try.prog 31, n ≤ reachBytes) :
    ∃ (A : Option Addr) (cap : Nat) (l : List ByteArray), cs = [.slice A l.length cap] ∧ l.length ≤ cap ∧ Kd.C Kd.string w A l.length l ∧ l.length ≤ 8796093022207 := by
  have bS : Try.prog.bytesOf 9 = 16 := by kernel_rfl
  rcases open_strings Try.underlying31 Try.underlying9 (by kernel_rfl) h with ⟨hcs, _⟩ | ⟨a, len, cap, ss, hcs, _, hl, hm, hz, hx, hcell, _⟩
  · exact ⟨none, 0, [], hcs, Nat.le_refl _, Kd.C_nil _ _, by simp⟩
  · simp only [if_true] at hz
    have hx1 : x.1 = .slice (strs (ss.take len)) (strs (ss.drop len)) := congrArg Prod.fst hx
    rw [hx1] at hw
    have hb : len * 16 ≤ reachBytes := by
      have := hw _ (by rw [DataW.weights, Try.underlying31]; simp only [bS]; exact List.mem_cons_self)
      simp only [strs, List.length_map, List.length_take, List.length_drop] at this
      omega
    have htl : (ss.take len).length = len := by rw [List.length_take]; omega
    refine ⟨some a, cap, ss.take len, by rw [htl]; exact hcs, by rw [htl]; exact hl, Kd.C_of_reads (d := ByteArray.empty) (h1 := fun _ => rfl) ⟨rfl, by rw [htl]; unfold maxLen at hm; omega, fun hp => ⟨a, rfl, fun j hj => ?_⟩⟩, by rw [htl]; unfold reachBytes at hb; omega⟩
    rw [htl] at hj
    rw [hcell j (by omega)]
    simp [List.getD_eq_getElem?_getD, List.getElem?_take, hj]
theorem open_strK {v : Value} {d : DataW H} {p : List MemPlace} {ts : List TypeId} {ds : List (DataW H)} {j : Nat} (hv : ∃ A len cap, v = .slice A len cap) (h : DataW.Trod enc Try.prog w 0 (fun _ => true) true 31 v d p)
    (hsz : (DataW.weightsEach Try.prog ts ds).all (· ≤ reachBytes) = true) (ht : ts[j]? = some 31) (hd : ds[j]? = some d) :
    ∃ (A : Option Addr) (cap : Nat) (l : List ByteArray), v = .slice A l.length cap ∧ l.length ≤ cap ∧ Kd.C Kd.string w A l.length l ∧ l.length ≤ 8796093022207 := by
  obtain ⟨A, len, cap, rfl⟩ := hv
  obtain ⟨fuel, hf⟩ := h
  obtain ⟨A', cap', l, e, hl, hC, hR⟩ := open_strsC (enc := enc) (w := w) hf (fun n hn => by
    have := List.all_eq_true.1 hsz _ (DataW.weights_mem_each ht hd n hn)
    simpa using this)
  simp only [Value.cells, List.cons.injEq, and_true, Value.slice.injEq] at e
  obtain ⟨rfl, rfl, rfl⟩ := e
  exact ⟨A, cap, l, rfl, hl, hC, hR⟩
end
end Go.Proofs.Ytbhgocpenbibgaa.PX
set_option linter.unusedVariables false
set_option linter.unusedSimpArgs false
namespace Go.Proofs.Ytbhgocpenbibgaa.diffFront
open Go.ChangeShapes Go.WideShapes Go.ChangeAt Go.RowKit
open Go.ChangeMaps (open_string shut_string)
open Go.Proofs.Ytbhgocpenbibgaa.PX
theorem own : ownKnob Try.prog.godebug = none := by kernel_rfl
theorem laidOut : laidOutB Try.prog = true := by kernel_rfl
set_option maxRecDepth 100000 in
theorem lifted (os : Os) (started : os.Started) (H : Type) (enc : TypeId × Value → H) :
    ReturnsInHanded {} Try.checked os 6 .any (Rows.diffFrontSpec.pre6 enc Try.prog Try.f6 Rows.diffFrontRow.domain false) (Rows.diffFrontSpec.post enc Try.prog Try.f6 false true false false) := by
  refine returnsInHanded_of_change_sized (C := Try.checked) own started (by kernel_rfl) Try.func6
    (ChangeSpec.witness6 (enc := enc) (C := Try.checked) false ⟨#[], #[.slice none 0 0, .slice none 0 0, .int .i64 0], []⟩ 8 (by kernel_rfl) (by kernel_rfl) (by kernel_rfl) (by kernel_rfl)) ?_
  intro W base args ds gs before hval0 hW hcnd hsz0 _
  have hsz : (DataW.weightsEach Try.prog (Try.f6.params.toList ++ Rows.diffFrontSpec.plain.varTypes Try.prog) (ds ++ gs)).all (· ≤ reachBytes) = true := hsz0
  have hval : ∀ (j : Nat) t v, Try.f6.params[j]? = some t → args[j]? = some v → Value.okWide Try.prog W .any base t v := hval0
  have hW' := hW
  obtain ⟨p, q, hA0, hV, rfl, hfz, hnd⟩ := hW
  have hA : DataW.TrodAll enc Try.prog W 0 (fun _ => true) true Try.f6.params.toList args.toList ds p := hA0
  rw [Try.params6] at hA hval hsz
  obtain ⟨v0, vs0, d0, ds0, p0, q0, hargs, rfl, rfl, h0, r0⟩ := trodAll_cons hA
  obtain ⟨v1, vs1, d1, ds1, p1, q1, rfl, rfl, rfl, h1, r1⟩ := trodAll_cons r0
  obtain ⟨v2, vs2, d2, ds2, p2, q2, rfl, rfl, rfl, h2, r2⟩ := trodAll_cons r1
  obtain ⟨rfl, rfl, rfl⟩ := trodAll_nil r2
  obtain rfl : args = #[v0, v1, v2] := by cases args; simp_all
  obtain ⟨rfl, rfl⟩ := trodVars_none hV
  have lt0 : ∀ x ∈ p0, x.block < W.heap.size := by obtain ⟨m, hm⟩ := h0; exact DataW.trod_lt m _ _ _ hm
  have k0 := h0
  have lt1 : ∀ x ∈ p1, x.block < W.heap.size := by obtain ⟨m, hm⟩ := h1; exact DataW.trod_lt m _ _ _ hm
  have k1 := h1
  have lt2 : ∀ x ∈ p2, x.block < W.heap.size := by obtain ⟨m, hm⟩ := h2; exact DataW.trod_lt m _ _ _ hm
  have k2 := h2
  obtain ⟨a0, c0, x0, rfl, L0, C0, R0⟩ := open_strK (okWide_slice Try.underlying31 (hval 0 31 v0 rfl rfl)) h0 hsz (j := 0) rfl rfl
  obtain ⟨a1, c1, x1, rfl, L1, C1, R1⟩ := open_strK (okWide_slice Try.underlying31 (hval 1 31 v1 rfl rfl)) h1 hsz (j := 1) rfl rfl
  obtain ⟨x2, rfl, _, _, w2⟩ := open_int Try.underlying3 (hval 2 3 v2 rfl rfl) h2
  clear hA0 hval0 hsz0 hsz
  obtain ⟨k, hk⟩ := (diffFront_ev x0 x1 x2).rounds
  refine (cadencelaw13_DiffFront.calls k a0 c0 x0 a1 c1 x1 x2 true W C0 L0 C1 L1 hk).mono fun e W' ⟨he, bel⟩ => ?_
  subst he
  exact ⟨_, rfl, _, _, _, [], _, [], hW', trodAll_mk1 (shut_bool Try.underlying4 _), (trodAll_cons_mk (Below.trod laidOut (by kernel_rfl) (of_decide_eq_true (by kernel_rfl)) k0 bel lt0) (trodAll_cons_mk (Below.trod laidOut (by kernel_rfl) (of_decide_eq_true (by kernel_rfl)) k1 bel lt1) (trodAll_cons_mk (Below.trod laidOut (by kernel_rfl) (of_decide_eq_true (by kernel_rfl)) k2 bel lt2) trodAll_mk0))), rfl, bel.frame _, fun h => by cases h⟩

theorem over : Rows.diffFrontRow.holds Try.pinned (OpenSpec.ofChange Rows.diffFrontSpec) :=
  OpenClaim.holds_of_wide 6 Try.f6 rfl rfl rfl rfl rfl rfl rfl ⟨rfl, rfl, rfl, rfl, rfl⟩ rfl rfl rfl rfl rfl (by kernel_rfl) Try.func6 (by kernel_rfl)
    (of_decide_eq_true (by kernel_rfl)) (by unfold Func.isWrapper; first | (rw [if_pos (by decide +kernel)]; kernel_rfl) | (rw [if_neg (by decide +kernel)]; exact ⟨rfl, rfl⟩))
    (fun os started H enc _ => lifted os started H enc)

theorem proved : Rows.DiffFrontSaid := over
#print axioms proved
end Go.Proofs.Ytbhgocpenbibgaa.diffFront
