/- The walk of CodeLess. -/
import Derived.Test.YtnhokgnfkljfhaaLaw1
set_option linter.unusedVariables false
set_option linter.unusedSimpArgs false
namespace Go.Proofs.Ytnhokgnfkljfhaa.codeLess
open Go.RowKit

theorem text_cut (m : Nat) (l : List UInt8) (h1 : l.length < m) (h2 : m < 65536) : textS (le m 2 ++ l, 0) = ([], (l, 8)) := by
  have e1 : takeS (le m 2 ++ l, 0) 2 = (le m 2, (l, 0)) := by
    have h : (le m 2).length = 2 := le_length m 2
    rw [takeS_some (by simp [h])]
    rw [List.take_append_of_le_length (by omega), List.drop_append_of_le_length (by omega), List.take_of_length_le (by omega), List.drop_of_length_le (by omega), List.nil_append]
  have e2 : num (le m 2) = m := by
    simp [le, List.range_succ, num]
    omega
  unfold textS
  rw [e1]
  simp only
  rw [e2, takeS_more (by omega)]

set_option maxRecDepth 20000 in
set_option maxHeartbeats 4000000 in
theorem walk (w : World) (x0 : Int) (h0 : -9223372036854775808 ≤ x0) (h0' : x0 ≤ 9223372036854775807) (a1 : Option Addr) (n1 c1 : Nat) (x1 : List UInt8) (hn1 : Hid (x1.length = n1)) (hr1 : Rd w a1 (x1.map bv)) (hl1 : n1 ≤ c1) (hc1 : c1 ≤ maxLen) :
    Calls Try.prog 6 #[.int .i64 x0, .slice a1 n1 c1] w fun e w' => e = .returned (.bool true) ∧ Below w.heap.size w w' := by
  obtain ⟨i0, hi, hz0, hz1, hz2⟩ := info_parts info_u8
  by_cases hb : 200 < n1
  · go_enter Try.func6, Try.ntmps6
    go_wp2_with (go_at_call 11; refine (known1_any _).mono ?_; rintro e w1 ⟨rfl, hg1⟩)
    go_ret
    exact ⟨rfl, hg1⟩
  have hl1' : (x1.map bv).length = n1 * 1 := by have := hn1.out; simpa using this
  have HL := Lib.hid hl1'
  clear hl1'
  obtain ⟨k10, k11⟩ := emod_bounds x0 (show (0 : Int) < 300 by decide)
  have W1 := Lib.hid (fun W => within1_any x0 300 W h0 h0' (by decide) (by decide))
  generalize x0 % 300 = k at *
  obtain ⟨q, rfl⟩ := Int.eq_ofNat_of_zero_le k10
  have hx1 := hn1.out
  have T1 := Lib.hid (rText_to (text_cut (n1 + 1 + q) x1 (by omega) (by omega)))
  have h7 : (x1.take 7).length = min n1 7 := by simp; omega
  have h7' := Lib.hid h7
  have I1 := Lib.hid (rInt_to (intS_cut (bs := x1.take 7) (by omega)))
  have E1 := Lib.hid (rEnd_to (endS_bad x1 (show (8 : Int) ≠ 0 by decide)))
  have E2 := Lib.hid (rEnd_to (endS_bad (x1.take 7) (show (8 : Int) ≠ 0 by decide)))
  have C2 : [Value.int .u8 (((n1 : Int) + 1 + q) % 256), .int .u8 (((n1 : Int) + 1 + q) / 256)] = (le (n1 + 1 + q) 2).map bv := by
    have := le_two (n1 + 1 + q) (by omega)
    simpa using this
  have M2 : (le (n1 + 1 + q) 2 ++ x1).length = 2 + n1 := by rw [List.length_append, le_length]; omega
  replace C2 := Lib.hid C2
  replace M2 := Lib.hid M2
  generalize le (n1 + 1 + q) 2 = L at *
  clear h7 hx1
  go_enter Try.func6, Try.ntmps6
  go_wp2_with (first
    | (go_at_call 11; refine (known1_any _).mono ?_; rintro e w1 ⟨rfl, hg1⟩)
    | (go_at_call 18; (with_reducible refine (W1.out _).mono ?_); rintro e _ ⟨rfl, rfl⟩)
    | (at_builtin; with_reducible refine wpList_append (o := ⟨some 27, _, _, _, _, _⟩) _ rfl _ _ 22 rfl w1.heap.size 5 i0 _ 1 1 Try.underlying22 hi hz0 hz1 hz2 rfl (by omega) (some ⟨w1.heap.size, 0, none⟩) 2 2 _ rfl (Own.of_row (Row.new w1 _ _) (Nat.le_refl _) rfl (by unfold maxLen; omega)) _ _ _ _ rfl HL.out (hr1.gr (hg1.trans' (Gr.alloc1 _ _))) (bv_one _) (by omega) (by unfold maxLen; omega) (Gr.alloc1 _ _).size ?_
       intro A2 c2 w2 hown hk
       rw [C2.out] at hown
       have hb2 : Gr w w2 := (hg1.trans' (Gr.alloc1 _ _)).trans (hk.below (fun g h => by cases h; exact hg1.size) (Nat.le_trans hg1.size (Gr.alloc1 _ _).size))
       have hd2 : Rd w2 A2 ((L ++ x1).map bv) := by have := hown.rd; simpa using this
       clear hk hown)
    | (go_at_call 19; (with_reducible refine (new_to M2.out A2 c2 w2 hd2 (by omega)).mono ?_); rintro e w3 ⟨g, rfl, hg, hs3, hgr3⟩; have hb3 := hb2.trans' hgr3; have hg' := Nat.le_trans hb2.size hg)
    | (go_at_call 20; (with_reducible refine (T1.out _ _ (by assumption)).mono ?_); rintro e w4 ⟨rfl, hs4, ho4⟩; have hb4 := hb3.only ho4 hg')
    | (go_at_call 19; (with_reducible refine (new_to (n := 7) (bs := x1.take 7) (by have := h7'.out; omega) a1 _ w4 (by rw [List.map_take]; exact (hr1.gr hb4).take 7) (by omega)).mono ?_); rintro e w5 ⟨gx, rfl, hgx, hsx5, hgr5⟩; have hb5 := hb4.trans' hgr5; have hgx' := Nat.le_trans hb4.size hgx; have hne : g ≠ gx := (by have := hs4.lt; omega); have hs5 := hs4.gr hgr5)
    | (go_at_call 19; (with_reducible refine (new_to (n := n1) (bs := x1.take 7) (by have := h7'.out; omega) a1 _ w4 (by rw [List.map_take]; exact (hr1.gr hb4).take 7) (by omega)).mono ?_); rintro e w5 ⟨gx, rfl, hgx, hsx5, hgr5⟩; have hb5 := hb4.trans' hgr5; have hgx' := Nat.le_trans hb4.size hgx; have hne : g ≠ gx := (by have := hs4.lt; omega); have hs5 := hs4.gr hgr5)
    | (go_at_call 22; (with_reducible refine (I1.out _ _ (by assumption)).mono ?_); rintro e w6 ⟨rfl, hsx6, ho6⟩; have hb6 := hb5.only ho6 hgx'; have hs6 := hs5.keep hsx5 ho6 hne)
    | (go_at_call 21; (with_reducible refine (E1.out g _ (by assumption)).mono ?_); rintro e _ ⟨rfl, rfl⟩)
    | (go_at_call 21; (with_reducible refine (E2.out gx _ (by assumption)).mono ?_); rintro e _ ⟨rfl, rfl⟩))
  all_goals
    go_ret
    exact ⟨rfl, hb6⟩
end Go.Proofs.Ytnhokgnfkljfhaa.codeLess
