/- The walk of CodeReads. -/
import Derived.Test.YtnhokgnfkljfhaaLaw1
set_option linter.unusedVariables false
set_option linter.unusedSimpArgs false
namespace Go.Proofs.Ytnhokgnfkljfhaa.codeReads
open Go.RowKit

theorem RefAt.gr {w w' : World} {g : Nat} {s : Rs} (h : RefAt w g s) (hg : Gr w w') : RefAt w' g s := by
  obtain ⟨A, c, L, p, hr, hd, h⟩ := h
  exact ⟨A, c, L, p, hr.gr hg, hd.gr hg, h⟩
theorem RefAt.lt {w : World} {g : Nat} {s : Rs} (h : RefAt w g s) : g < w.heap.size := by
  obtain ⟨A, c, L, p, hr, hd, h⟩ := h
  exact hr.lt
theorem RdrAt.keepX {w w' : World} {g gx : Nat} {s sx : Rs} (h : RdrAt w g s) (hx : RefAt w gx sx) (ho : w.grownBy w' (some gx)) (hne : g ≠ gx) : RdrAt w' g s := by
  obtain ⟨A, c, hr, hd, h1, h2⟩ := h
  obtain ⟨A', c', L, p, hr', _⟩ := hx
  exact ⟨A, c, (ho.block g hr.lt (fun e => hne (Option.some.inj e))).trans hr, hd.keep hr' (ref_cells _ _ _ _ _) ho, h1, h2⟩
theorem RefAt.keepR {w w' : World} {g gx : Nat} {s sx : Rs} (h : RefAt w gx sx) (hx : RdrAt w g s) (ho : w.grownBy w' (some g)) (hne : g ≠ gx) : RefAt w' gx sx := by
  obtain ⟨A, c, L, p, hr, hd, h⟩ := h
  obtain ⟨A', c', hr', _⟩ := hx
  exact ⟨A, c, L, p, (ho.block gx hr.lt (fun e => hne (Option.some.inj e).symm)).trans hr, hd.keep hr' (rdr_cells _ _ _ _) ho, h⟩

theorem tdiv7 {z : Int} (h : -9223372036854775808 ≤ z) (h' : z ≤ 9223372036854775807) : -9223372036854775808 ≤ z.tdiv 7 ∧ z.tdiv 7 ≤ 9223372036854775807 := by
  rw [Int.tdiv_eq_ediv, show Int.sign 7 = 1 from rfl]
  split <;> omega

set_option maxHeartbeats 4000000 in
theorem walk (w : World) (a0 : Option Addr) (n0 c0 : Nat) (x0 : List UInt8) (hn0 : Hid (x0.length = n0)) (hr0 : Rd w a0 (x0.map bv)) (hl0 : n0 ≤ c0) (hc0 : c0 ≤ maxLen)
    (a1 : Option Addr) (n1 c1 : Nat) (x1 : List Int) (hn1 : Hid (x1.length = n1)) (hr1 : Rd w a1 (x1.map iv)) (hb1 : ∀ z ∈ x1, -9223372036854775808 ≤ z ∧ z ≤ 9223372036854775807) (hl1 : n1 ≤ c1) (hc1 : c1 ≤ maxLen) :
    Calls Try.prog 9 #[.slice a0 n0 c0, .slice a1 n1 c1] w fun e w' => e = .returned (.bool true) ∧ Below w.heap.size w w' := by
  obtain ⟨i0, hi, hz0, hz1, hz2⟩ := info_parts info_u8
  by_cases hb : 500 < n0
  · go_enter Try.func9, Try.ntmps9
    go_wp2_with (go_at_call 11; refine (known1_any _).mono ?_; rintro e w1 ⟨rfl, hg1⟩)
    go_ret
    exact ⟨rfl, hg1⟩
  have hl0' : (x0.map bv).length = n0 * 1 := by have := hn0.out; simpa using this
  have HL := Lib.hid hl0'
  clear hl0'
  go_enter Try.func9, Try.ntmps9
  go_wp2_with (first
    | (go_at_call 11; refine (known1_any _).mono ?_; rintro e w1 ⟨rfl, hg1⟩)
    | (at_builtin; with_reducible refine wpList_append (o := ⟨some 15, _, _, _, _, _⟩) _ rfl _ _ 22 rfl w1.heap.size 5 i0 _ 1 1 Try.underlying22 hi hz0 hz1 hz2 rfl (by omega) _ 0 0 [] rfl (Own.empty _ _ _) _ _ _ _ rfl HL.out (hr0.gr (hg1.trans' (Gr.alloc1 _ _))) (bv_one _) (by omega) (by unfold maxLen; omega) (Gr.alloc1 _ _).size ?_
       intro A2 c2 w2 hown hk
       simp only [Nat.zero_add, List.nil_append] at hown
       have hb2 : Gr w w2 := (hg1.trans' (Gr.alloc1 _ _)).trans (hk.below (fun g h => by cases h; exact hg1.size) (Nat.le_trans hg1.size (Gr.alloc1 _ _).size))
       clear hk)
    | (go_at_call 19; (with_reducible refine (new_to hn0.out A2 c2 w2 hown.rd (by omega)).mono ?_); rintro e w3 ⟨g, rfl, hg, hs3, hgr3⟩; have hb3 := hb2.trans' hgr3; have hg' := Nat.le_trans hb2.size hg)
    | (go_at_call 24; (with_reducible refine (xNew_any a0 n0 c0 x0 w3 hn0 (hr0.gr hb3) hl0 (by unfold maxLen at hc0; omega)).mono ?_); rintro e w4 ⟨gx, rfl, hgx, hx4, hgr4⟩; have hb4 := hb3.trans' hgr4; have hgx' := Nat.le_trans hb3.size hgx; have hne : g ≠ gx := (by have := hs3.lt; omega); have hs4 := hs3.gr hgr4))
  go_loopw [7] (fun i wr => ∃ j : Nat, j ≤ n1 ∧ i = .int .i64 j ∧ ∃ s, RdrAt wr g s ∧ RefAt wr gx s ∧ Gr w wr) (fun i _ => n1 - (intOf i).toNat)
  case atStart => exact ⟨0, Nat.zero_le _, rfl, _, hs4, hx4, hb4⟩
  case round =>
    obtain ⟨j, hj, rfl, s, hs, hx, hb5⟩ := hrel
    have RI := Lib.hid (fun g s W (h : RdrAt W g s) => rInt_any g s W h)
    have RB := Lib.hid (fun g s W (h : RdrAt W g s) => rByte_any g s W h)
    have RT := Lib.hid (fun g s W (h : RdrAt W g s) => rText_any g s W h)
    have RE := Lib.hid (fun g s W (h : RdrAt W g s) => rEnd_any g s W h)
    have RF := Lib.hid (fun g s k W (h : RdrAt W g s) => rFail_any g s k W h)
    have XI := Lib.hid (fun g s W (h : RefAt W g s) => xInt'_any g s W h)
    have XB := Lib.hid (fun g s W (h : RefAt W g s) => xByte'_any g s W h)
    have XT := Lib.hid (fun g s W (h : RefAt W g s) => xText'_any g s W h)
    have XE := Lib.hid (fun g s W (h : RefAt W g s) => xEnd_any g s W h)
    have XF := Lib.hid (fun g s k W (h : RefAt W g s) => xFail_any g s k W h)
    by_cases hlt : j < n1 ∧ j < 30
    · obtain ⟨hlt, h30⟩ := hlt
      have hjl : j < x1.length := by have := hn1.out; omega
      obtain ⟨ad, rfl, hc⟩ := hr1.at_ (k := j) (by simpa using hjl)
      simp only [List.getElem_map, iv] at hc
      have hcw := Lib.hid hc
      replace hc := hb5.cell hc
      obtain ⟨hz, hz'⟩ := hb1 x1[j] (List.getElem_mem hjl)
      generalize x1[j] = z at *
      obtain ⟨m0, m1⟩ := emod_bounds z (show (0 : Int) < 7 by decide)
      have W1 := Lib.hid (fun W => within1_any z 7 W hz hz' (by decide) (by decide))
      generalize z % 7 = m at *
      obtain ⟨t0, t1⟩ := tdiv7 hz hz'
      have W2 := Lib.hid (fun W => within1_any (z.tdiv 7) 20 W t0 t1 (by decide) (by decide))
      have hm : m = 0 ∨ m = 1 ∨ m = 2 ∨ m = 3 ∨ m = 4 ∨ m = 5 ∨ m = 6 := by omega
      rcases hm with rfl | rfl | rfl | rfl | rfl | rfl | rfl
      all_goals
        go_wp2_with (first
          | (go_at_call 18; (with_reducible refine (W1.out _).mono ?_); rintro e _ ⟨rfl, rfl⟩)
          | (go_at_call 22; (with_reducible refine (RI.out _ _ _ hs).mono ?_); rintro e w6 ⟨rfl, hs6, ho6⟩; have hx6 := RefAt.keepR hx hs ho6 hne; have hb6 := hb5.only ho6 hg')
          | (go_at_call 23; (with_reducible refine (RB.out _ _ _ hs).mono ?_); rintro e w6 ⟨rfl, hs6, ho6⟩; have hx6 := RefAt.keepR hx hs ho6 hne; have hb6 := hb5.only ho6 hg')
          | (go_at_call 20; (with_reducible refine (RT.out _ _ _ hs).mono ?_); rintro e w6 ⟨rfl, hs6, ho6⟩; have hx6 := RefAt.keepR hx hs ho6 hne; have hb6 := hb5.only ho6 hg')
          | (go_at_call 25; (with_reducible refine (XI.out _ _ _ hx6).mono ?_); rintro e w7 ⟨rfl, hx7, ho7⟩; have hs7 := RdrAt.keepX hs6 hx6 ho7 hne; have hb7 := hb6.only ho7 hgx')
          | (go_at_call 26; (with_reducible refine (XB.out _ _ _ hx6).mono ?_); rintro e w7 ⟨rfl, hx7, ho7⟩; have hs7 := RdrAt.keepX hs6 hx6 ho7 hne; have hb7 := hb6.only ho7 hgx')
          | (go_at_call 27; (with_reducible refine (XT.out _ _ _ hx6).mono ?_); rintro e w7 ⟨rfl, hx7, ho7⟩; have hs7 := RdrAt.keepX hs6 hx6 ho7 hne; have hb7 := hb6.only ho7 hgx')
          | (go_at_call 21; (with_reducible refine (RE.out _ _ _ hs7).mono ?_); rintro e _ ⟨rfl, rfl⟩)
          | (go_at_call 30; (with_reducible refine (XE.out _ _ _ hx7).mono ?_); rintro e _ ⟨rfl, nd, rfl⟩))
      iterate 6
        · go_roundw
          case rel => exact ⟨j + 1, by omega, by go_num, _, hs7.gr (Gr.drawN _ _), RefAt.gr hx7 (Gr.drawN _ _), hb7.trans' (Gr.drawN _ _)⟩
          case measure => simp [intOf]; omega
      go_wp2_with (first
          | (go_at_call 18; (with_reducible refine (W2.out _).mono ?_); rintro e _ ⟨rfl, rfl⟩)
          | (go_at_call 28; (with_reducible refine (RF.out _ _ _ _ hs).mono ?_); rintro e w6 ⟨rfl, hs6, ho6⟩; have hx6 := RefAt.keepR hx hs ho6 hne; have hb6 := hb5.only ho6 hg'; have hc6 := hb6.cell hcw.out)
          | (go_at_call 29; (with_reducible refine (XF.out _ _ _ _ hx6).mono ?_); rintro e w7 ⟨rfl, hx7, ho7⟩; have hs7 := RdrAt.keepX hs6 hx6 ho7 hne; have hb7 := hb6.only ho7 hgx')
          | (go_at_call 21; (with_reducible refine (RE.out _ _ _ hs7).mono ?_); rintro e _ ⟨rfl, rfl⟩)
          | (go_at_call 30; (with_reducible refine (XE.out _ _ _ hx7).mono ?_); rintro e _ ⟨rfl, nd, rfl⟩))
      go_roundw
      case rel => exact ⟨j + 1, by omega, by go_num, _, hs7.gr (Gr.drawN _ _), RefAt.gr hx7 (Gr.drawN _ _), hb7.trans' (Gr.drawN _ _)⟩
      case measure => simp [intOf]; omega
    · go_wp2_with (first
          | (go_at_call 21; (with_reducible refine (RE.out _ _ _ hs).mono ?_); rintro e _ ⟨rfl, rfl⟩)
          | (go_at_call 30; (with_reducible refine (XE.out _ _ _ hx).mono ?_); rintro e _ ⟨rfl, nd, rfl⟩))
      all_goals
        go_ret
        exact ⟨rfl, hb5.trans' (Gr.drawN _ _)⟩
end Go.Proofs.Ytnhokgnfkljfhaa.codeReads
