/- The walk of CodeOrder. -/
import Derived.Test.YtnhokgnfkljfhaaLaw0
import Derived.Test.YtnhokgnfkljfhaaOpen
set_option linter.unusedVariables false
set_option linter.unusedSimpArgs false
namespace Go.Proofs.Ytnhokgnfkljfhaa.codeOrder
open Go.RowKit

set_option maxHeartbeats 4000000 in
theorem walk (w : World) (a0 : Option Addr) (n0 c0 : Nat) (x0 : List UInt8) (hn0 : Hid (x0.length = n0)) (hr0 : Rd w a0 (x0.map bv)) (hl0 : n0 ≤ c0) (hc0 : c0 ≤ maxLen)
    (x1 : Int) (h1 : -9223372036854775808 ≤ x1) (h1' : x1 ≤ 9223372036854775807) (x2 : Int) (h2 : -9223372036854775808 ≤ x2) (h2' : x2 ≤ 9223372036854775807) (x3 : ByteArray) (h3 : x3.size ≤ maxLen) :
    Calls Try.prog 4 #[.slice a0 n0 c0, .int .i64 x1, .int .i64 x2, .string x3] w fun e w' => e = .returned (.bool true) ∧ Below w.heap.size w w' := by
  obtain ⟨i0, hi, hz0, hz1, hz2⟩ := info_parts info_u8
  by_cases hb : 50 < n0
  · go_enter Try.func4, Try.ntmps4
    go_wp2_with (go_at_call 11; refine (known1_any _).mono ?_; rintro e w1 ⟨rfl, hg1⟩)
    go_ret
    exact ⟨rfl, hg1⟩
  by_cases hs : 200 < x3.size
  · go_enter Try.func4, Try.ntmps4
    go_wp2_with (go_at_call 11; refine (known1_any _).mono ?_; rintro e w1 ⟨rfl, hg1⟩)
    go_ret
    exact ⟨rfl, hg1⟩
  have hl0' : (x0.map bv).length = n0 * 1 := by have := hn0.out; simpa using this
  have HL := Lib.hid hl0'
  clear hl0'
  have H1 := Lib.hid (fun A n c bs W hn hx (hl : n ≤ 1000) => wInt_any A n c bs x1 W hn hx (by omega))
  have L1 := le_length (u64 x1) 8
  generalize le (u64 x1) 8 = I at *
  have H2 := Lib.hid (fun A n c bs W hn hx (hl : n ≤ 1000) => wByte_any A n c bs x2 W hn hx (by omega))
  have L2 : [u8 x2].length = 1 := rfl
  generalize [u8 x2] = J at *
  have H3 : ∀ A n c bs W, Hid (bs.length = n) → Rd W A (bs.map bv) → n ≤ 1000 → Calls Try.prog 16 #[.slice A n c, .string x3] W (FreshB W (bs ++ (le (cutS x3).length 2 ++ cutS x3))) := by
    intro A n c bs W hn hx hl
    have H := wText_any A n c bs x3 W hn hx (by omega) h3
    rwa [List.append_assoc] at H
  replace H3 := Lib.hid H3
  have L3 : (le (cutS x3).length 2 ++ cutS x3).length = 2 + x3.size := by
    rw [List.length_append, le_length, cutS_length]
    omega
  generalize le (cutS x3).length 2 ++ cutS x3 = T at *
  have H10 := Lib.hid (fun W => by have := H1.out none 0 0 [] W (Lib.hid rfl) (Rd.nil _ _) (by omega); rwa [List.nil_append] at this)
  have H20 := Lib.hid (fun W => by have := H2.out none 0 0 [] W (Lib.hid rfl) (Rd.nil _ _) (by omega); rwa [List.nil_append] at this)
  have H30 := Lib.hid (fun W => by have := H3.out none 0 0 [] W (Lib.hid rfl) (Rd.nil _ _) (by omega); rwa [List.nil_append] at this)
  have hx0 := hn0.out
  go_enter Try.func4, Try.ntmps4
  go_wp2_with (first
    | (go_at_call 11; refine (known1_any _).mono ?_; rintro e w1 ⟨rfl, hg1⟩)
    | (at_builtin; with_reducible refine wpList_append (o := ⟨some 23, _, _, _, _, _⟩) _ rfl _ _ 22 rfl w1.heap.size 5 i0 _ 1 1 Try.underlying22 hi hz0 hz1 hz2 rfl (by omega) _ 0 0 [] rfl (Own.empty _ _ _) _ _ _ _ rfl HL.out (hr0.gr (hg1.trans' (Gr.alloc1 _ _))) (bv_one _) (by omega) (by unfold maxLen; omega) (Gr.alloc1 _ _).size ?_
       intro A2 c2 w2 hown hk
       simp only [Nat.zero_add, List.nil_append] at hown
       have hb2 : Gr w w2 := (hg1.trans' (Gr.alloc1 _ _)).trans (hk.below (fun g h => by cases h; exact hg1.size) (Nat.le_trans hg1.size (Gr.alloc1 _ _).size))
       clear hk)
    | (at_builtin; with_reducible refine wpList_append (o := ⟨some 32, _, _, _, _, _⟩) _ rfl _ _ 22 rfl w5.heap.size 5 i0 _ 1 1 Try.underlying22 hi hz0 hz1 hz2 rfl (by omega) _ 0 0 [] rfl (Own.empty _ _ _) _ _ _ _ rfl HL.out (hr0.gr ((((hb2.trans' hgr3).trans' hgr4).trans' hgr5).trans' (Gr.alloc1 _ _))) (bv_one _) (by omega) (by unfold maxLen; omega) (Gr.alloc1 _ _).size ?_
       intro A6 c6 w6 hown6 hk6
       simp only [Nat.zero_add, List.nil_append] at hown6
       have hto6 := AppTo.refl (Own.empty w5 5 1) (Gr.alloc1 _ _).size
       have hto6 := hto6.step (by simpa using hown6) hk6
       clear hown6 hk6)
    | (at_builtin; with_reducible refine wpList_append (o := ⟨some 35, _, _, _, _, _⟩) _ rfl _ _ 22 rfl w5.heap.size 5 i0 _ 1 1 Try.underlying22 hi hz0 hz1 hz2 rfl (by omega) A6 n0 c6 _ rfl (hto6.own.gr hgr7) _ 8 _ _ rfl (by simpa using L1) (Rd.of_row' hr7) (bv_one _) (by omega) (by unfold maxLen; omega) (by have := hto6.base; have := hto6.size; have := hgr7.size; have := (Gr.alloc1 w5 (.cells #[] 5)).size; omega) ?_
       intro A8 c8 w8 hown8 hk8
       have hto8 := (hto6.gr hgr7).step hown8 hk8
       clear hown8 hk8)
    | (at_builtin; with_reducible refine wpList_append (o := ⟨some 38, _, _, _, _, _⟩) _ rfl _ _ 22 rfl w5.heap.size 5 i0 _ 1 1 Try.underlying22 hi hz0 hz1 hz2 rfl (by omega) A8 (n0 + 8) c8 _ rfl (hto8.own.gr hgr9) _ 1 _ _ rfl (by simpa using L2) (Rd.of_row' hr9) (bv_one _) (by omega) (by unfold maxLen; omega) (by have := hto8.base; have := hto8.size; have := hgr9.size; have := (Gr.alloc1 w5 (.cells #[] 5)).size; omega) ?_
       intro A10 c10 w10 hown10 hk10
       have hto10 := (hto8.gr hgr9).step hown10 hk10
       clear hown10 hk10)
    | (at_builtin; with_reducible refine wpList_append (o := ⟨some 41, _, _, _, _, _⟩) _ rfl _ _ 22 rfl w5.heap.size 5 i0 _ 1 1 Try.underlying22 hi hz0 hz1 hz2 rfl (by omega) A10 (n0 + 8 + 1) c10 _ rfl (hto10.own.gr hgr11) _ (2 + x3.size) _ _ rfl (by simpa using L3) (Rd.of_row' hr11) (bv_one _) (by omega) (by unfold maxLen; omega) (by have := hto10.base; have := hto10.size; have := hgr11.size; have := (Gr.alloc1 w5 (.cells #[] 5)).size; omega) ?_
       intro A12 c12 w12 hown12 hk12
       have hto12 := (hto10.gr hgr11).step hown12 hk12
       clear hown12 hk12
       have hg12 : Gr w5 w12 := ((Gr.alloc1 w5 (.cells #[] 5))).grown hto12.grown (Gr.alloc1 w5 (.cells #[] 5)).size (fun k hk => by cases hk; exact Nat.le_refl _)
       have hd1 : Rd w12 (some ⟨g5, 0, none⟩) ((x0 ++ I ++ J ++ T).map bv) := (Rd.of_row' hr5).gr hg12
       have hd2 : Rd w12 A12 ((x0 ++ I ++ J ++ T).map bv) := by have := hto12.own.rd; simpa using this
       have hm1 := hn5.out
       have hm3 : n0 + 8 + 1 + (2 + x3.size) = n5 := by omega
       have hm4 : ((n5 : Int) == (n0 : Int) + 8 + 1 + 2 + (x3.size : Int)) = true := by simp; omega
       have hc1 := run_str (P := Try.prog) hd1 22 9 5 n5 n5 hm1.symm Try.underlying22 Try.underlying5 Try.underlying9
       have hc2 := run_str (P := Try.prog) hd2 22 9 5 n5 c12 hm1.symm Try.underlying22 Try.underlying5 Try.underlying9
       generalize x0 ++ I ++ J ++ T = Z at *
       clear hto6 hto8 hto10 hto12 hm1)
    | (go_at_call 12; (with_reducible refine (H10.out _).mono ?_); rintro e w7 ⟨g7, n7, rfl, hn7, hg7, hr7, hgr7⟩; obtain rfl : 8 = n7 := L1.symm.trans hn7.out)
    | (go_at_call 14; (with_reducible refine (H20.out _).mono ?_); rintro e w9 ⟨g9, n9, rfl, hn9, hg9, hr9, hgr9⟩; obtain rfl : 1 = n9 := L2.symm.trans hn9.out)
    | (go_at_call 16; (with_reducible refine (H30.out _).mono ?_); rintro e w11 ⟨g11, n11, rfl, hn11, hg11, hr11, hgr11⟩; obtain rfl : 2 + x3.size = n11 := L3.symm.trans hn11.out)
    | (go_at_call 12; (with_reducible refine (H1.out A2 n0 c2 x0 w2 hn0 hown.rd (by omega)).mono ?_); rintro e w3 ⟨g3, n3, rfl, hn3, hg3, hr3, hgr3⟩; have e3 := hn3.out; simp only [List.length_append] at e3)
    | (go_at_call 14; (with_reducible refine (H2.out _ n3 _ _ w3 hn3 (Rd.of_row' hr3) (by omega)).mono ?_); rintro e w4 ⟨g4, n4, rfl, hn4, hg4, hr4, hgr4⟩; have e4 := hn4.out; simp only [List.length_append] at e4)
    | (go_at_call 16; (with_reducible refine (H3.out _ n4 _ _ w4 hn4 (Rd.of_row' hr4) (by omega)).mono ?_); rintro e w5 ⟨g5, n5, rfl, hn5, hg5, hr5, hgr5⟩; have e5 := hn5.out; simp only [List.length_append] at e5))

  go_ret
  exact ⟨rfl, (((hb2.trans' hgr3).trans' hgr4).trans' hgr5).trans' hg12⟩
end Go.Proofs.Ytnhokgnfkljfhaa.codeOrder
