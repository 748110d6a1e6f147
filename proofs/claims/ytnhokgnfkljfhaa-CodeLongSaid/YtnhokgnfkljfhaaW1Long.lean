/- The walk of CodeLong. -/
import Derived.Test.YtnhokgnfkljfhaaLaw1
set_option linter.unusedVariables false
set_option linter.unusedSimpArgs false
namespace Go.Proofs.Ytnhokgnfkljfhaa.codeLong
open Go.RowKit

theorem num_two (m : Nat) (h : m < 65536) : num (le m 2) = m := by
  simp [le, List.range_succ, num]
  omega
theorem text_whole (C : List UInt8) (h : C.length < 65536) : textS (le C.length 2 ++ C, 0) = (C, ([], 0)) := by
  have h2 : (le C.length 2).length = 2 := le_length _ 2
  have e1 : takeS (le C.length 2 ++ C, 0) 2 = (le C.length 2, (C, 0)) := by
    rw [takeS_some (by simp [h2])]
    rw [List.take_append_of_le_length (by omega), List.drop_append_of_le_length (by omega), List.take_of_length_le (by omega), List.drop_of_length_le (by omega), List.nil_append]
  unfold textS
  rw [e1]
  simp only
  rw [num_two _ h, takeS_some (by omega)]
  simp

def row0 (ub : UInt8) (m : Nat) : List UInt8 := ub :: List.replicate m 0
theorem row0_set (ub : UInt8) (x : Int) (hx : bv ub = .int .u8 x) (m : Nat) : (List.replicate (m + 1) (Value.int .u8 0)).set 0 (.int .u8 x) = (row0 ub m).map bv := by
  simp [row0, List.replicate_succ, hx]
  exact .inr rfl

set_option maxHeartbeats 4000000 in
theorem walk (w : World) (x0 : Int) (h0 : -9223372036854775808 ≤ x0) (h0' : x0 ≤ 9223372036854775807) (x1 : Int) (h1 : 0 ≤ x1) (h1' : x1 ≤ 255) :
    Calls Try.prog 5 #[.int .i64 x0, .int .u8 x1] w fun e w' => e = .returned (.bool true) ∧ Below w.heap.size w w' := by
  obtain ⟨i0, hi, hz0, hz1, hz2⟩ := info_parts info_u8
  obtain ⟨k10, k11⟩ := emod_bounds x0 (show (0 : Int) < 5 by decide)
  have W1 := Lib.hid (fun W => within1_any x0 5 W h0 h0' (by decide) (by decide))
  generalize x0 % 5 = k at *
  obtain ⟨m, hm⟩ : ∃ m : Nat, (65533 : Int) + k = m := ⟨(65533 + k).toNat, by omega⟩
  have hm1 : 65533 ≤ m := by omega
  have hm2 : m ≤ 65537 := by omega
  obtain ⟨u, rfl⟩ := Int.eq_ofNat_of_zero_le h1
  have hub : bv (UInt8.ofNat u) = .int .u8 (u : Int) := by
    unfold bv
    congr 1
    simp
    omega
  have hset := row0_set (UInt8.ofNat u) u hub (m - 1)
  obtain ⟨X, hX⟩ : ∃ X, row0 (UInt8.ofNat u) (m - 1) = X := ⟨_, rfl⟩
  have hXl : X.length = m := by rw [← hX]; simp [row0]; omega
  have hX0 : ∃ r, X = UInt8.ofNat u :: r := ⟨_, by rw [← hX]; rfl⟩
  rw [hX, show m - 1 + 1 = m by omega] at hset
  clear hX
  obtain ⟨C, hC⟩ : ∃ C, cutS ⟨X.toArray⟩ = C := ⟨_, rfl⟩
  have hC' : C = X.take 65535 := by rw [← hC]; simp [cutS]
  have hCl : C.length = min (m) 65535 := by rw [hC']; simp; omega
  have hC0 : ∃ r, C = UInt8.ofNat u :: r := by
    obtain ⟨r, hr⟩ := hX0
    exact ⟨r.take 65534, by rw [hC', hr]; rfl⟩
  obtain ⟨kk, hkk⟩ : ∃ kk, C.length = kk := ⟨_, rfl⟩
  have T1 := text_whole C (by omega)
  have X1 := Lib.hid (fun W => wText_any none 0 0 [] ⟨X.toArray⟩ W (Lib.hid rfl) (Rd.nil _ _) (by omega) (by unfold maxLen; show X.toArray.size ≤ _; simp; omega))
  rw [hC, List.nil_append, hkk] at X1
  rw [hkk] at T1
  have hL2 : ∃ b0 b1, le kk 2 = [b0, b1] ∧ bv b0 = .int .u8 ((kk : Int) % 256) ∧ bv b1 = .int .u8 255 := by
    refine ⟨UInt8.ofNat kk, UInt8.ofNat (kk / 256), by simp [le, List.range_succ], ?_, ?_⟩
    · unfold bv
      congr 1
    · unfold bv
      congr 1
      simp
      omega
  obtain ⟨b0, b1, hL2, hb0, hb1⟩ := hL2
  rw [hL2] at T1 X1
  replace T1 := Lib.hid (rText_to T1)
  have E1 := Lib.hid (rEnd_to endS_nil)
  have hset' := Lib.hid hset
  have hXL := Lib.hid hXl
  have hKK := Lib.hid hkk
  have hkv : (m ≤ 65535 ∧ m = kk) ∨ (65536 ≤ m ∧ kk = 65535) := by omega
  obtain ⟨r, hr⟩ := hC0
  have hcI : (ByteArray.mk C.toArray).size = kk := by show C.toArray.size = kk; simpa using hkk
  have hcS : ∀ h, ((⟨C.toArray⟩ : ByteArray)[0]'h).toNat = u := by
    intro h
    show (C.toArray[0]'h).toNat = u
    simp [hr]
    omega
  have H4 : ∀ {n4 : Nat}, Hid (([b0, b1] ++ C).length = n4) → n4 = kk + 2 := by
    intro n4 h
    have := h.out
    simp at this
    omega
  have N4 := Lib.hid (show ([b0, b1] ++ C).length = kk + 2 by simp; omega)
  have D0 : ∀ (w : World) (g : Nat), Row w g 5 (([b0, b1] ++ C).map bv) → w.cell? ⟨g, 0, none⟩ = some (.int .u8 ((kk : Int) % 256)) := by
    intro w g h
    rw [h.cell, ← hb0]
    rfl
  have D1 : ∀ (w : World) (g : Nat), Row w g 5 (([b0, b1] ++ C).map bv) → w.cell? ⟨g, 1, none⟩ = some (.int .u8 255) := by
    intro w g h
    rw [h.cell, ← hb1]
    rfl
  clear hset hXl hkk hX0 hC hC' hCl hr hL2
  rcases hkv with ⟨hq, rfl⟩ | ⟨hq, rfl⟩
  all_goals
    go_enter Try.func5, Try.ntmps5
    go_wp2_with (first
      | (go_at_call 11; refine (known1_any _).mono ?_; rintro e w1 ⟨rfl, hg1⟩)
      | (go_at_call 18; (with_reducible refine (W1.out _).mono ?_); rintro e _ ⟨rfl, rfl⟩)
      | (at_make; refine wpList_make_row _ rfl _ _ _ rfl 5 i0 _ Try.underlying22 hi hz0 hz1 rfl _ _ _ _ (m) rfl rfl (by simp) (by simp) (by rw [hz2]; omega) (by unfold maxLen; omega) ?_; intro w2 hrow hg2 hlt
         have hc0 : w2.cell? ⟨w1.heap.size, 0, none⟩ = some (.int .u8 0) := by rw [hrow.cell, List.getElem?_replicate, if_pos (by omega)]
         have hf0 := hrow.frozen 0
         have hrow2 := hrow.set 0 (.int .u8 (u : Int))
         rw [hset'.out] at hrow2
         have hb3 : Gr w (w2.setCell ⟨w1.heap.size, 0, none⟩ (.int .u8 (u : Int))) := (hg1.trans' hg2).setCell hg1.size _
         have hcv := run_str (P := Try.prog) (Rd.of_row' hrow2) 22 9 5 (m) (m) hXL.out.symm Try.underlying22 Try.underlying5 Try.underlying9)
      | (go_at_call 16; (with_reducible refine (X1.out _).mono ?_); rintro e w4 ⟨g4, n4, rfl, hn4, hg4, hr4, hgr4⟩; have hb4 := hb3.trans' hgr4; obtain rfl := H4 hn4; have d0 := D0 _ _ hr4; have d1 := D1 _ _ hr4; have hd4 := Rd.of_row' hr4)
      | (go_at_call 19; (with_reducible refine (new_to N4.out _ _ w4 hd4 (by omega)).mono ?_); rintro e w5 ⟨g, rfl, hg, hs5, hgr5⟩; have hb5 := hb4.trans' hgr5; have hg' := Nat.le_trans hb4.size hg)
      | (go_at_call 20; (with_reducible refine (T1.out _ _ (by assumption)).mono ?_); rintro e w6 ⟨rfl, hs6, ho6⟩; have hb6 := hb5.only ho6 hg'; have hr6 := (hr4.gr hgr5).only ho6 (by have := hr4.lt; omega); replace d0 := D0 _ _ hr6; replace d1 := D1 _ _ hr6)
      | (go_at_call 21; (with_reducible refine (E1.out _ _ (by assumption)).mono ?_); rintro e _ ⟨rfl, rfl⟩))
  all_goals
    go_ret
    exact ⟨rfl, hb6⟩
end Go.Proofs.Ytnhokgnfkljfhaa.codeLong
