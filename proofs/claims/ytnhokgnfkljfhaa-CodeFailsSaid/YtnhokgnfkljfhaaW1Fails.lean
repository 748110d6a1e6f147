/- The walk of CodeFails. -/
import Derived.Test.YtnhokgnfkljfhaaLaw1
set_option linter.unusedVariables false
set_option linter.unusedSimpArgs false
namespace Go.Proofs.Ytnhokgnfkljfhaa.codeFails
open Go.RowKit

set_option maxHeartbeats 4000000 in
theorem walk (w : World) (a0 : Option Addr) (n0 c0 : Nat) (x0 : List UInt8) (hn0 : Hid (x0.length = n0)) (hr0 : Rd w a0 (x0.map bv)) (hl0 : n0 ≤ c0) (hc0 : c0 ≤ maxLen)
    (x1 : Int) (h1 : -9223372036854775808 ≤ x1) (h1' : x1 ≤ 9223372036854775807) (x2 : Int) (h2 : -9223372036854775808 ≤ x2) (h2' : x2 ≤ 9223372036854775807) :
    Calls Try.prog 10 #[.slice a0 n0 c0, .int .i64 x1, .int .i64 x2] w fun e w' => e = .returned (.bool true) ∧ Below w.heap.size w w' := by
  by_cases hb : 100 < n0
  · go_enter Try.func10, Try.ntmps10
    go_wp2_with (go_at_call 11; refine (known1_any _).mono ?_; rintro e w1 ⟨rfl, hg1⟩)
    go_ret
    exact ⟨rfl, hg1⟩
  obtain ⟨k10, k11⟩ := emod_bounds x1 (show (0 : Int) < 22 by decide)
  obtain ⟨k20, k21⟩ := emod_bounds x2 (show (0 : Int) < 22 by decide)
  have W1 := Lib.hid (fun W => within1_any x1 22 W h1 h1' (by decide) (by decide))
  have W2 := Lib.hid (fun W => within1_any x2 22 W h2 h2' (by decide) (by decide))
  generalize x1 % 22 = k1 at *
  generalize x2 % 22 = k2 at *
  have he : (1 + k1) ≠ 0 := by omega
  have hE : ∃ av, endS (x0, 0) = av ∧ (av == 0) = decide (n0 = 0) := by
    have := hn0.out
    by_cases h : n0 = 0
    · have hx : x0 = [] := List.eq_nil_of_length_eq_zero (by omega)
      subst hx
      exact ⟨_, endS_nil, by simp [h]⟩
    · exact ⟨_, endS_more (by omega), by simp [h]⟩
  obtain ⟨av, hE1, hE2⟩ := hE
  have hE3 : (av == 0) = ((n0 : Int) == 0) := by rw [hE2]; by_cases h : n0 = 0 <;> simp [h]
  have F1 := Lib.hid (rFail_to (failS_ok x0 0))
  have F2 := Lib.hid (rFail_to (failS_ok x0 (1 + k1)))
  have F3 := Lib.hid (rFail_to (failS_bad x0 he (1 + k2)))
  have F4 := Lib.hid (rFail_to (failS_bad [] (show (8 : Int) ≠ 0 by decide) (1 + k2)))
  have E1 := Lib.hid (rEnd_to hE1)
  have E2 := Lib.hid (rEnd_to (endS_bad x0 he))
  have E3 := Lib.hid (rEnd_to (endS_bad [] (show (8 : Int) ≠ 0 by decide)))
  have I1 := Lib.hid (rInt_to (intS_bad x0 he))
  have I2 := Lib.hid (rInt_to (intS_cut (show ([] : List UInt8).length < 8 by decide)))
  have T1 := Lib.hid (rText_to (textS_bad x0 he))
  have B1 := Lib.hid (rByte_to (byteS_bad x0 he))
  clear hE1 hE2
  go_enter Try.func10, Try.ntmps10
  go_wp2_with (first
    | (go_at_call 11; refine (known1_any _).mono ?_; rintro e w1 ⟨rfl, hg1⟩)
    | (go_at_call 18; (with_reducible refine (W1.out _).mono ?_); rintro e _ ⟨rfl, rfl⟩)
    | (go_at_call 18; (with_reducible refine (W2.out _).mono ?_); rintro e _ ⟨rfl, rfl⟩)
    | (go_at_call 19; (with_reducible refine (new_to hn0.out a0 c0 w1 (hr0.gr hg1) (by omega)).mono ?_); rintro e w2 ⟨g, rfl, hg, hs2, hgr2⟩; have hb2 := hg1.trans' hgr2; have hg' := Nat.le_trans hg1.size hg)
    | (go_at_call 28; (with_reducible refine (F1.out _ _ (by assumption)).mono ?_); rintro e w3 ⟨rfl, hs3, ho3⟩; have hb3 := hb2.only ho3 hg')
    | (go_at_call 21; (with_reducible refine (E1.out _ _ (by assumption)).mono ?_); rintro e _ ⟨rfl, rfl⟩)
    | (go_at_call 28; (with_reducible refine (F2.out _ _ (by assumption)).mono ?_); rintro e w4 ⟨rfl, hs4, ho4⟩; have hb4 := hb3.only ho4 hg')
    | (go_at_call 28; (with_reducible refine (F3.out _ _ (by assumption)).mono ?_); rintro e w5 ⟨rfl, hs5, ho5⟩; have hb5 := hb4.only ho5 hg')
    | (go_at_call 22; (with_reducible refine (I1.out _ _ (by assumption)).mono ?_); rintro e w6 ⟨rfl, hs6, ho6⟩; have hb6 := hb5.only ho6 hg')
    | (go_at_call 20; (with_reducible refine (T1.out _ _ (by assumption)).mono ?_); rintro e w7 ⟨rfl, hs7, ho7⟩; have hb7 := hb6.only ho7 hg')
    | (go_at_call 23; (with_reducible refine (B1.out _ _ (by assumption)).mono ?_); rintro e w8 ⟨rfl, hs8, ho8⟩; have hb8 := hb7.only ho8 hg')
    | (go_at_call 19; (with_reducible refine (new_to (bs := []) (n := 0) rfl none 0 w8 (Rd.nil _ _) (by omega)).mono ?_); rintro e w9 ⟨gx, rfl, hgx, hsx9, hgr9⟩; have hb9 := hb8.trans' hgr9; have hgx' := Nat.le_trans hb8.size hgx; have hne : g ≠ gx := (by have := hs8.lt; omega); have hs9 := hs8.gr hgr9)
    | (go_at_call 22; (with_reducible refine (I2.out _ _ (by assumption)).mono ?_); rintro e w10 ⟨rfl, hsx10, ho10⟩; have hb10 := hb9.only ho10 hgx'; have hs10 := hs9.keep hsx9 ho10 hne)
    | (go_at_call 28; (with_reducible refine (F4.out _ _ (by assumption)).mono ?_); rintro e w11 ⟨rfl, hsx11, ho11⟩; have hb11 := hb10.only ho11 hgx'; have hs11 := hs10.keep hsx10 ho11 hne)
    | (go_at_call 21; (with_reducible refine (E2.out g _ (by assumption)).mono ?_); rintro e _ ⟨rfl, rfl⟩)
    | (go_at_call 21; (with_reducible refine (E3.out gx _ (by assumption)).mono ?_); rintro e _ ⟨rfl, rfl⟩))
  go_ret
  exact ⟨rfl, hb11⟩
end Go.Proofs.Ytnhokgnfkljfhaa.codeFails
