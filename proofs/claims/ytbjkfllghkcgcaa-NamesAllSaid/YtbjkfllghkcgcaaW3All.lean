/- The walk of NamesAll. -/
import Derived.Test.YtbjkfllghkcgcaaNmM
import Derived.Test.YtbjkfllghkcgcaaNmX
import Derived.Test.YtbjkfllghkcgcaaNaR5
import Derived.Test.YtbjkfllghkcgcaaNaS1
import Derived.Deep.RegionHeld3
set_option linter.unusedVariables false
set_option linter.unusedSimpArgs false
namespace Go.Proofs.Ytbjkfllghkcgcaa.namesAll
open Go.RowKit Go.Sort

attribute [local go_sem] Vc.known_tmp Vc.known_const Vc.known_func Vc.known_global Vc.lk Vc.okUpon Vc.Fact.holds

theorem makes_names {o : Oper} (hg : o.guard = none) (ho : o.op = .alloc 25) : Vc.Makes Try.prog o := by
  refine ⟨hg, fun ρ w n w' h => ?_⟩
  obtain ⟨d, op, ty, pos, af, gd⟩ := o
  simp only at ho
  subst ho
  simp [execOp, go_sem] at h
  obtain ⟨rfl, rfl⟩ := h
  exact ⟨rfl, (Row.new w _ _).lt⟩

theorem code_at {P : Program} {c : Code} {Q : Exit → Act → World → Prop} {a : Act} {w w' : World} (h : w' = w) (H : c.wp P Q a w') : c.wp P Q a w := h ▸ H

theorem has_str (b : Bool) (A : Option Addr) (n c : Nat) (L : List Str) (s : Str) (w : World) (hn : Hid (L.length = n)) (hr : Rd w A (L.map encStr)) (hl : n ≤ 1000000) :
    Calls Try.prog 15 #[.agg #[.bool b, .slice A n c], encStr s] w fun e w' => e = .returned (.bool (isIn b L s)) ∧ Gr w w' := has_any b A n c L ⟨s.toArray⟩ w hn hr hl
theorem exact_eq (f : Bool) (A : Option Addr) (n c : Nat) (A' : Option Addr) (n' c' : Nat) (L : List Str) (w : World) (h1 : Hid (L.length = n)) (h : Rd w A (L.map encStr)) (h1' : Hid (L.length = n')) (h' : Rd w A' (L.map encStr)) (hl : n ≤ 1000000) :
    Calls Try.prog 22 #[.agg #[.bool f, .slice A n c], .agg #[.bool f, .slice A' n' c']] w fun e w' => e = .returned (.bool true) ∧ Gr w w' := by
  obtain rfl : n = n' := h1.out.symm.trans h1'.out
  exact exact_any f A n c A' c' L w h1 h h' hl
/-- Two sets in one value. -/
def Pr2 (b1 : Bool) (L1 : List Str) (b2 : Bool) (L2 : List Str) (v : Value) (w : World) : Prop :=
  ∃ A n c A' n' c', v = .agg #[.bool b1, .slice A n c, .bool b2, .slice A' n' c'] ∧ Hid (L1.length = n) ∧ Rd w A (L1.map encStr) ∧ Hid (L2.length = n') ∧ Rd w A' (L2.map encStr)
theorem Pr2.gr {b1 b2 : Bool} {L1 L2 : List Str} {v : Value} {w w' : World} (hg : Gr w w') (h : Pr2 b1 L1 b2 L2 v w) : Pr2 b1 L1 b2 L2 v w' := by
  obtain ⟨A, n, c, A', n', c', e, h1, h2, h3, h4⟩ := h
  exact ⟨A, n, c, A', n', c', e, h1, h2.gr hg, h3, h4.gr hg⟩

set_option maxRecDepth 20000 in
set_option maxHeartbeats 8000000 in
theorem walk (w : World) (b0 : Bool) (A0 : Option Addr) (n0 c0 : Nat) (L0 : List Str) (hn0 : Hid (L0.length = n0)) (hr0 : Rd w A0 (L0.map encStr)) (hs0 : ∀ s ∈ L0, s.length ≤ maxLen) (hl0 : n0 ≤ maxLen)
    (b1 : Bool) (A1 : Option Addr) (n1 c1 : Nat) (L1 : List Str) (hn1 : Hid (L1.length = n1)) (hr1 : Rd w A1 (L1.map encStr)) (hs1 : ∀ s ∈ L1, s.length ≤ maxLen) (hl1 : n1 ≤ maxLen)
    (st : Str) :
    Calls Try.prog 6 #[.agg #[.bool b0, .slice A0 n0 c0], .agg #[.bool b1, .slice A1 n1 c1], encStr st] w fun e w' => e = .returned (.bool true) ∧ Below w.heap.size w w' := by
  have HF0 := Lib.hid (fun W => few_any b0 A0 n0 c0 W)
  have HF1 := Lib.hid (fun W => few_any b1 A1 n1 c1 W)
  obtain ⟨hb0, hb1, hg0⟩ := new2 w 25 25 [.bool b0, .slice A0 n0 c0] [.bool b1, .slice A1 n1 c1]
  by_cases hF0 : n0 ≤ 25
  case neg =>
    rw [decide_eq_false hF0] at HF0
    go_enter Try.func6, Try.ntmps6
    go_wp2_with (first
      | (go_at_call 8; refine (known3_any _).mono ?_; rintro e w1 ⟨rfl, hg1⟩
         have hc0 : w1.cell? ⟨w.heap.size, 0, none⟩ = some (.bool b0) := (hb0.gr hg1).cell 0
         have hc1 : w1.cell? ⟨w.heap.size, 1, none⟩ = some (.slice A0 n0 c0) := (hb0.gr hg1).cell 1)
      | (go_at_call 10; (with_reducible refine (HF0.out _).mono ?_); rintro e w2 ⟨rfl, hg2⟩))
    go_ret
    exact ⟨rfl, (hg0.trans' hg1).trans' hg2⟩
  rw [decide_eq_true hF0] at HF0
  by_cases hF1 : n1 ≤ 25
  case neg =>
    rw [decide_eq_false hF1] at HF1
    go_enter Try.func6, Try.ntmps6
    go_wp2_with (first
      | (go_at_call 8; refine (known3_any _).mono ?_; rintro e w1 ⟨rfl, hg1⟩
         have hc0 : w1.cell? ⟨w.heap.size, 0, none⟩ = some (.bool b0) := (hb0.gr hg1).cell 0
         have hc1 : w1.cell? ⟨w.heap.size, 1, none⟩ = some (.slice A0 n0 c0) := (hb0.gr hg1).cell 1)
      | (go_at_call 10; (with_reducible refine (HF0.out _).mono ?_); rintro e w2 ⟨rfl, hg2⟩
         have hc2 : w2.cell? ⟨w.heap.size + 1, 0, none⟩ = some (.bool b1) := ((hb1.gr hg1).gr hg2).cell 0
         have hc3 : w2.cell? ⟨w.heap.size + 1, 1, none⟩ = some (.slice A1 n1 c1) := ((hb1.gr hg1).gr hg2).cell 1)
      | (go_at_call 10; (with_reducible refine (HF1.out _).mono ?_); rintro e w3 ⟨rfl, hg3⟩))
    go_ret
    exact ⟨rfl, ((hg0.trans' hg1).trans' hg2).trans' hg3⟩
  rw [decide_eq_true hF1] at HF1
  have HM0 := Lib.hid (fun W h => make_any b0 A0 n0 c0 L0 W hn0 h hl0 hs0)
  have HM1 := Lib.hid (fun W h => make_any b1 A1 n1 c1 L1 W hn1 h hl1 hs1)
  have hX6 := mkL_length L0
  have hY6 := mkL_length L1
  generalize mkL L0 = X at *
  generalize mkL L1 = Y at *
  go_enter Try.func6, Try.ntmps6
  go_wp2_with (first
    | (go_at_call 8; refine (known3_any _).mono ?_; rintro e w1 ⟨rfl, hg1⟩
       have hc0 : w1.cell? ⟨w.heap.size, 0, none⟩ = some (.bool b0) := (hb0.gr hg1).cell 0
       have hc1 : w1.cell? ⟨w.heap.size, 1, none⟩ = some (.slice A0 n0 c0) := (hb0.gr hg1).cell 1)
    | (go_at_call 10; (with_reducible refine (HF0.out _).mono ?_); rintro e w2 ⟨rfl, hg2⟩
       have hc2 : w2.cell? ⟨w.heap.size + 1, 0, none⟩ = some (.bool b1) := ((hb1.gr hg1).gr hg2).cell 0
       have hc3 : w2.cell? ⟨w.heap.size + 1, 1, none⟩ = some (.slice A1 n1 c1) := ((hb1.gr hg1).gr hg2).cell 1
       clear hc0 hc1)
    | (go_at_call 10; (with_reducible refine (HF1.out _).mono ?_); rintro e w3 ⟨rfl, hg3⟩; clear hc2 hc3))
  have hG13 := (hg1.trans' hg2).trans' hg3
  have hb0 := hb0.gr hG13
  have hb1 := hb1.gr hG13
  have hG3 := hg0.trans' hG13
  clear hg0 hg1 hg2 hg3 hG13 HF0 HF1
  have hc0 := Lib.hid (show w3.cell? ⟨w.heap.size, 0, none⟩ = some (.bool b0) ∧ w3.cell? ⟨w.heap.size, 1, none⟩ = some (.slice A0 n0 c0) from ⟨hb0.cell 0, hb0.cell 1⟩)
  have hc1 := Lib.hid (show w3.cell? ⟨w.heap.size + 1, 0, none⟩ = some (.bool b1) ∧ w3.cell? ⟨w.heap.size + 1, 1, none⟩ = some (.slice A1 n1 c1) from ⟨hb1.cell 0, hb1.cell 1⟩)
  have hd0 := hr0.gr hG3
  have hd1 := hr1.gr hG3
  refine Vc.wp_region_split ⟨Gr, fun _ => Gr, fun _ W => Gr w3 W, []⟩ 13 [] (by kernel_rfl) (by kernel_rfl) (by kernel_rfl) (by decide) (by simp) (by simp) (by simp) (fun _ _ h => h.size) (fun _ _ _ h => h.size) (fun _ _ _ h h' => h'.trans' h) (Gr.draw _) ?_
  repeat
    refine Vc.Walk.pure (v := ?_) (fun _ => Gr.rfl' _) rfl (by first | exact Vc.GuardYes.no rfl | exact Vc.GuardYes.yes rfl rfl) rfl rfl ?_ ?_
    rotate_left
    · intro _ W hI
      (have y0 := hI.g.cell hc0.out.1; have y1 := hI.g.cell hc0.out.2; have y2 := hI.g.cell hc1.out.1; have y3 := hI.g.cell hc1.out.2; clear hI)
      go_simp
      exact rfl
  refine Vc.Walk.any (.fits (Vc.All (NmV (b0) (X)))) (st_gr (fun _ _ h => h) (fun _ _ _ h => h) NmV.gr) (by first | exact .no rfl | exact .yes rfl rfl) ?_ ?_
  · intro ρ k W hI hf
    obtain ⟨hρ0, hρ1, _⟩ := hf
    have hg := hI.g
    have e0 : ρ (.func 17) = .func (.func 17) #[] #[] := hρ0
    have e1 : ρ (.tmp 24) = .agg #[.bool b0, .slice A0 n0 c0] := hρ1
    clear hI hρ0 hρ1
    go_simp
    refine (HM0.out _ (hd0.gr hg)).mono ?_
    rintro e W' ⟨A', n', c', rfl, hn', hr', h1, h2, hg'⟩
    exact ⟨_, rfl, ⟨_, _, _, rfl, hn', hr', h1, h2⟩, hg'⟩
  repeat
    refine Vc.Walk.pure (v := ?_) (fun _ => Gr.rfl' _) rfl (by first | exact Vc.GuardYes.no rfl | exact Vc.GuardYes.yes rfl rfl) rfl rfl ?_ ?_
    rotate_left
    · intro _ W hI
      (have y0 := hI.g.cell hc0.out.1; have y1 := hI.g.cell hc0.out.2; have y2 := hI.g.cell hc1.out.1; have y3 := hI.g.cell hc1.out.2; clear hI)
      go_simp
      exact rfl
  refine Vc.Walk.any (.fits (Vc.All (NmV (b1) (Y)))) (st_gr (fun _ _ h => h) (fun _ _ _ h => h) NmV.gr) (by first | exact .no rfl | exact .yes rfl rfl) ?_ ?_
  · intro ρ k W hI hf
    obtain ⟨hρ0, hρ1, _⟩ := hf
    have hg := hI.g
    have e0 : ρ (.func 17) = .func (.func 17) #[] #[] := hρ0
    have e1 : ρ (.tmp 26) = .agg #[.bool b1, .slice A1 n1 c1] := hρ1
    clear hI hρ0 hρ1
    go_simp
    refine (HM1.out _ (hd1.gr hg)).mono ?_
    rintro e W' ⟨A', n', c', rfl, hn', hr', h1, h2, hg'⟩
    exact ⟨_, rfl, ⟨_, _, _, rfl, hn', hr', h1, h2⟩, hg'⟩
  refine Vc.Walk.any (.fits (Vc.All (Pr2 b0 X b1 Y))) (st_gr (fun _ _ h => h) (fun _ _ _ h => h) Pr2.gr) (.no rfl) ?_ ?_
  · intro ρ k W hI hf
    obtain ⟨⟨E1, p1, o1, hρ1, hp1, hq1, _⟩, ⟨E2, p2, o2, hρ2, hp2, hq2, _⟩, _⟩ := hf
    have e1 : ρ (.tmp 25) = .agg #[.bool b0, .slice E1 p1 o1] := hρ1
    have e2 : ρ (.tmp 27) = .agg #[.bool b1, .slice E2 p2 o2] := hρ2
    clear hI hρ1 hρ2
    go_simp
    exact ⟨⟨_, _, _, _, _, _, rfl, hp1, hq1, hp2, hq2⟩, Gr.rfl' _⟩
  repeat
    refine Vc.Walk.pure (v := ?_) (fun _ => Gr.rfl' _) rfl (by first | exact Vc.GuardYes.no rfl | exact Vc.GuardYes.yes rfl rfl) rfl rfl ?_ ?_
    rotate_left
    · intro _ W hI
      (have y0 := hI.g.cell hc0.out.1; have y1 := hI.g.cell hc0.out.2; have y2 := hI.g.cell hc1.out.1; have y3 := hI.g.cell hc1.out.2; clear hI)
      go_simp
      exact rfl
  refine Vc.Walk.any (.fits (Vc.All (NmV (b0) (X)))) (st_gr (fun _ _ h => h) (fun _ _ _ h => h) NmV.gr) (by first | exact .no rfl | exact .yes rfl rfl) ?_ ?_
  · intro ρ k W hI hf
    obtain ⟨hρ0, hρ1, _⟩ := hf
    have hg := hI.g
    have e0 : ρ (.func 17) = .func (.func 17) #[] #[] := hρ0
    have e1 : ρ (.tmp 29) = .agg #[.bool b0, .slice A0 n0 c0] := hρ1
    clear hI hρ0 hρ1
    go_simp
    refine (HM0.out _ (hd0.gr hg)).mono ?_
    rintro e W' ⟨A', n', c', rfl, hn', hr', h1, h2, hg'⟩
    exact ⟨_, rfl, ⟨_, _, _, rfl, hn', hr', h1, h2⟩, hg'⟩
  repeat
    refine Vc.Walk.pure (v := ?_) (fun _ => Gr.rfl' _) rfl (by first | exact Vc.GuardYes.no rfl | exact Vc.GuardYes.yes rfl rfl) rfl rfl ?_ ?_
    rotate_left
    · intro _ W hI
      (have y0 := hI.g.cell hc0.out.1; have y1 := hI.g.cell hc0.out.2; have y2 := hI.g.cell hc1.out.1; have y3 := hI.g.cell hc1.out.2; clear hI)
      go_simp
      exact rfl
  refine Vc.Walk.any (.fits (Vc.All (NmV (b0) (X)))) (st_gr (fun _ _ h => h) (fun _ _ _ h => h) NmV.gr) (by first | exact .no rfl | exact .yes rfl rfl) ?_ ?_
  · intro ρ k W hI hf
    obtain ⟨hρ0, hρ1, _⟩ := hf
    have hg := hI.g
    have e0 : ρ (.func 17) = .func (.func 17) #[] #[] := hρ0
    have e1 : ρ (.tmp 31) = .agg #[.bool b0, .slice A0 n0 c0] := hρ1
    clear hI hρ0 hρ1
    go_simp
    refine (HM0.out _ (hd0.gr hg)).mono ?_
    rintro e W' ⟨A', n', c', rfl, hn', hr', h1, h2, hg'⟩
    exact ⟨_, rfl, ⟨_, _, _, rfl, hn', hr', h1, h2⟩, hg'⟩
  refine Vc.Walk.any (.fits (Vc.All (Pr2 b0 X b0 X))) (st_gr (fun _ _ h => h) (fun _ _ _ h => h) Pr2.gr) (.no rfl) ?_ ?_
  · intro ρ k W hI hf
    obtain ⟨⟨E1, p1, o1, hρ1, hp1, hq1, _⟩, ⟨E2, p2, o2, hρ2, hp2, hq2, _⟩, _⟩ := hf
    have e1 : ρ (.tmp 30) = .agg #[.bool b0, .slice E1 p1 o1] := hρ1
    have e2 : ρ (.tmp 32) = .agg #[.bool b0, .slice E2 p2 o2] := hρ2
    clear hI hρ1 hρ2
    go_simp
    exact ⟨⟨_, _, _, _, _, _, rfl, hp1, hq1, hp2, hq2⟩, Gr.rfl' _⟩
  intro W hW
  have hW : Gr w3 W := hW
  clear HM0 HM1 hc0 hc1
  simp only [List.reverse_cons, List.reverse_nil, List.nil_append, List.cons_append, Vc.finish, Act.put, List.setIfInBounds_toArray, List.set_cons_zero, List.set_cons_succ]
  rintro u25 _ u27 _ u28 ⟨B0, m0, d0, B1, m1, d1, rfl, hm0, hB0, hm1, hB1⟩ u30 _ u32 _ u33 ⟨B2, m2, d2, B3, m3, d3, rfl, hm2, hB2, hm3, hB3⟩ _
  simp only [List.drop_succ_cons, List.drop_zero]
  go_wp2_with fail
  obtain ⟨We, hWe⟩ : ∃ V, V = W.alloc (.cells ([.bool b0, .slice A0 n0 c0, .bool b1, .slice A1 n1 c1, .bool b0, .slice B0 m0 d0, .bool b1, .slice B1 m1 d1, .bool b0, .slice B2 m2 d2, .bool b0, .slice B3 m3 d3] : List Value).toArray 45) := ⟨_, rfl⟩
  refine code_at hWe ?_
  obtain ⟨hRl, hgl⟩ := new1 W 45 [.bool b0, .slice A0 n0 c0, .bool b1, .slice A1 n1 c1, .bool b0, .slice B0 m0 d0, .bool b1, .slice B1 m1 d1, .bool b0, .slice B2 m2 d2, .bool b0, .slice B3 m3 d3]
  rw [← hWe] at hRl hgl
  clear hWe
  have hG3e := (hG3.trans' hW).trans' hgl
  have hB0 := hB0.gr hgl
  have hB1 := hB1.gr hgl
  have hB2 := hB2.gr hgl
  have hB3 := hB3.gr hgl
  have hA0 := (hd0.gr hW).gr hgl
  have hA1 := (hd1.gr hW).gr hgl
  have hall : ∀ j, j < 3 → ∃ (bx : Bool) (Ax : Option Addr) (nx cx : Nat) (S : List Str) (by_ : Bool) (Ay : Option Addr) (ny cy : Nat) (U : List Str), ([.bool b0, .slice A0 n0 c0, .bool b1, .slice A1 n1 c1, .bool b0, .slice B0 m0 d0, .bool b1, .slice B1 m1 d1, .bool b0, .slice B2 m2 d2, .bool b0, .slice B3 m3 d3] : List Value)[j * 4]? = some (.bool bx) ∧ ([.bool b0, .slice A0 n0 c0, .bool b1, .slice A1 n1 c1, .bool b0, .slice B0 m0 d0, .bool b1, .slice B1 m1 d1, .bool b0, .slice B2 m2 d2, .bool b0, .slice B3 m3 d3] : List Value)[j * 4 + 1]? = some (.slice Ax nx cx) ∧ ([.bool b0, .slice A0 n0 c0, .bool b1, .slice A1 n1 c1, .bool b0, .slice B0 m0 d0, .bool b1, .slice B1 m1 d1, .bool b0, .slice B2 m2 d2, .bool b0, .slice B3 m3 d3] : List Value)[j * 4 + 2]? = some (.bool by_) ∧ ([.bool b0, .slice A0 n0 c0, .bool b1, .slice A1 n1 c1, .bool b0, .slice B0 m0 d0, .bool b1, .slice B1 m1 d1, .bool b0, .slice B2 m2 d2, .bool b0, .slice B3 m3 d3] : List Value)[j * 4 + 3]? = some (.slice Ay ny cy) ∧ Hid (S.length = nx) ∧ Rd We Ax (S.map encStr) ∧ nx ≤ 25 ∧ Hid (U.length = ny) ∧ Rd We Ay (U.map encStr) ∧ ny ≤ 25 := by
    intro j hj
    have q0 := hm0.out
    have q1 := hm1.out
    have q2 := hm2.out
    have q3 := hm3.out
    have hj3 : j = 0 ∨ j = 1 ∨ j = 2 := by omega
    rcases hj3 with rfl | rfl | rfl
    · exact ⟨_, _, _, _, _, _, _, _, _, _, rfl, rfl, rfl, rfl, hn0, hA0, hF0, hn1, hA1, hF1⟩
    · exact ⟨_, _, _, _, _, _, _, _, _, _, rfl, rfl, rfl, rfl, hm0, hB0, by omega, hm1, hB1, by omega⟩
    · exact ⟨_, _, _, _, _, _, _, _, _, _, rfl, rfl, rfl, rfl, hm2, hB2, by omega, hm3, hB3, by omega⟩
  have hkl := Lib.hid (fun i v (h : ([.bool b0, .slice A0 n0 c0, .bool b1, .slice A1 n1 c1, .bool b0, .slice B0 m0 d0, .bool b1, .slice B1 m1 d1, .bool b0, .slice B2 m2 d2, .bool b0, .slice B3 m3 d3] : List Value)[i]? = some v) => ((hRl.cell i).trans h : We.cell? ⟨W.heap.size, i, none⟩ = some v))
  replace hall := Lib.hid hall
  clear hRl hd0 hd1 hb0 hb1 hr0 hr1
  go_loopw [8] (fun i wq => ∃ j : Nat, j ≤ 3 ∧ i = .int .i64 j ∧ Gr We wq) (fun i _ => 3 - (intOf i).toNat)
  case atStart => exact ⟨0, by omega, rfl, Gr.rfl' _⟩
  case round =>
    obtain ⟨j, hj, rfl, hq⟩ := hrel
    by_cases hlt : j < 3
    · obtain ⟨bx, Ax, nx, cx, S, by_, Ay, ny, cy, U, v0, v1, v2, v3, hnx, hSx, hx25, hny, hUy, hy25⟩ := hall.out j hlt
      have q0 := Lib.hid (hq.cell (hkl.out _ _ v0))
      have q1 := Lib.hid (hq.cell (hkl.out _ _ v1))
      have q2 := Lib.hid (hq.cell (hkl.out _ _ v2))
      have q3 := Lib.hid (hq.cell (hkl.out _ _ v3))
      have hSx := hSx.gr hq
      have hUy := hUy.gr hq
      clear v0 v1 v2 v3
      go_wp2_with fail
      have hWlt := (hkl.out 0 _ rfl)
      have hWr := Nat.lt_of_lt_of_le (World.block_lt_of_cell? We _ hWlt) hq.size
      have hneA : W.heap.size ≠ wr.heap.size := by simp at hWr; omega
      have hneB : W.heap.size ≠ wr.heap.size + 1 := by simp at hWr; omega
      have r0 := q0.out
      have r1 := q1.out
      have r2 := q2.out
      have r3 := q3.out
      have i0 : (0 : Int) ≤ (j : Int) := by omega
      have i1 : (j : Int) < 3 := by omega
      clear hWlt hWr
      go_region_held3 (fun w' => w'.cell? ⟨W.heap.size, j * 4, none⟩ = some (.bool bx) ∧ w'.cell? ⟨W.heap.size, j * 4 + 1, none⟩ = some (.slice Ax nx cx) ∧ w'.cell? ⟨W.heap.size, j * 4 + 2, none⟩ = some (.bool by_) ∧ w'.cell? ⟨W.heap.size, j * 4 + 3, none⟩ = some (.slice Ay ny cy)) (go_keep) (fail)
      all_goals
        clear r0 r1 r2 r3 hneA hneB i0 i1
        go_wp2_with fail
        first
        | (obtain ⟨Wb, hWb⟩ : ∃ U, U = ((wr.alloc (.cells #[.bool bx, .slice Ax nx cx] 25)).alloc (.cells #[.bool by_, .slice Ay ny cy] 25)).drew := ⟨_, rfl⟩
           refine code_at hWb ?_
           obtain ⟨u1, u2, hgA⟩ := new2 wr 25 25 [.bool bx, .slice Ax nx cx] [.bool by_, .slice Ay ny cy]
           have G2 : Gr wr Wb := by rw [hWb]; exact hgA.trans' (Gr.draw _)
           have t1 : Row Wb (wr.heap.size) 25 [.bool bx, .slice Ax nx cx] := by rw [hWb]; exact u1.drew
           have s2 : Row Wb (wr.heap.size + 1) 25 [.bool by_, .slice Ay ny cy] := by rw [hWb]; exact u2.drew
           clear hWb hgA u1 u2)
        | (obtain ⟨Wb, hWb⟩ : ∃ U, U = ((wr.alloc (.cells #[.bool by_, .slice Ay ny cy] 25)).alloc (.cells #[.bool bx, .slice Ax nx cx] 25)).drew := ⟨_, rfl⟩
           refine code_at hWb ?_
           obtain ⟨u1, u2, hgA⟩ := new2 wr 25 25 [.bool by_, .slice Ay ny cy] [.bool bx, .slice Ax nx cx]
           have G2 : Gr wr Wb := by rw [hWb]; exact hgA.trans' (Gr.draw _)
           have t1 : Row Wb (wr.heap.size + 1) 25 [.bool bx, .slice Ax nx cx] := by rw [hWb]; exact u2.drew
           have s2 : Row Wb (wr.heap.size) 25 [.bool by_, .slice Ay ny cy] := by rw [hWb]; exact u1.drew
           clear hWb hgA u1 u2)
        have z0 := Lib.hid (And.intro (t1.cell 0) (t1.cell 1))
        have z1 := Lib.hid (And.intro (s2.cell 0) (s2.cell 1))
        simp only [List.getElem?_cons_zero, List.getElem?_cons_succ] at z0 z1
        have hxd := hSx.gr G2
        have hyd := hUy.gr G2
        have l1 := bothL_length bx by_ S U
        have l2 := eitherL_length bx by_ S U
        have l3 := ofL_length_le S
        have qx := hnx.out
        have qy := hny.out
        have CB := Lib.hid (fun V h h' => both_any bx Ax nx cx S by_ Ay ny cy U V hnx h (by omega) hny h' (by omega))
        have CE := Lib.hid (fun V h h' => either_any bx Ax nx cx S by_ Ay ny cy U V hnx h (by omega) hny h' (by omega))
        have CN := Lib.hid (fun V h => not_any bx Ax nx cx S V hnx h (by omega))
        have XB := Lib.hid (fun V h h' => xboth_any bx Ax nx cx S by_ Ay ny cy U V hnx h (by omega) hny h' (by omega))
        have XE := Lib.hid (fun V h h' => xeither_any bx Ax nx cx S by_ Ay ny cy U V hnx h (by omega) hny h' (by omega))
        have XN := Lib.hid (fun V h => xnot_any bx Ax nx cx S V hnx h (by omega))
        have EB := Lib.hid (fun f A n c A' n' c' V (h1 : Hid ((bothL bx by_ S U).length = n)) h (h1' : Hid ((bothL bx by_ S U).length = n')) h' => exact_eq f A n c A' n' c' _ V h1 h h1' h' (by have := h1.out; omega))
        have EE := Lib.hid (fun f A n c A' n' c' V (h1 : Hid ((eitherL bx by_ S U).length = n)) h (h1' : Hid ((eitherL bx by_ S U).length = n')) h' => exact_eq f A n c A' n' c' _ V h1 h h1' h' (by have := h1.out; omega))
        have EN := Lib.hid (fun f A n c A' n' c' V (h1 : Hid ((ofL S).length = n)) h (h1' : Hid ((ofL S).length = n')) h' => exact_eq f A n c A' n' c' _ V h1 h h1' h' (by have := h1.out; omega))
        have CS := Lib.hid (fun V h h' => same_any bx Ax nx cx S by_ Ay ny cy U V hnx h (by omega) hny h' (by omega))
        have XS := Lib.hid (fun V h h' => xsame_any bx Ax nx cx S by_ Ay ny cy U V hnx h (by omega) hny h' (by omega))
        have CK := Lib.hid (fun V => none_any bx Ax nx cx S V hnx)
        have XK := Lib.hid (fun V => xnone_any bx Ax nx cx S V hnx)
        have CH := Lib.hid (fun V h => has_str bx Ax nx cx S st V hnx h (by omega))
        have XH := Lib.hid (fun V h => xhas_any bx Ax nx cx S st V hnx h (by omega))
        clear l1 l2 l3 qx qy
        generalize bothL bx by_ S U = LB at *
        generalize eitherL bx by_ S U = LE at *
        generalize ofL S = LN at *
        generalize sameL bx by_ S U = sv at *
        generalize noneL bx S = kv at *
        generalize isIn bx S st = iv' at *
        generalize (bx && by_) = fB at *
        generalize (bx || by_) = fE at *
        generalize (!bx) = fN at *
        refine Vc.wp_region_facts ⟨Gr, fun _ => Gr, fun _ V => Gr Wb V, []⟩ (by kernel_rfl) (by kernel_rfl) (fun _ _ _ h h' => h'.trans' h) (Gr.draw _) ?_
        repeat
          refine Vc.Walk.pure (v := ?_) (fun _ => Gr.rfl' _) rfl (by first | exact Vc.GuardYes.no rfl | exact Vc.GuardYes.yes rfl rfl) rfl rfl ?_ ?_
          rotate_left
          · intro _ W hI
            (have q := hI.g; clear hI; have y0 := q.cell z0.out.1; have y1 := q.cell z0.out.2; have y2 := q.cell z1.out.1; have y3 := q.cell z1.out.2; clear q)
            go_simp
            exact rfl
        refine Vc.Walk.any (.fits (Vc.All (NmV (fB) (LB)))) (st_gr (fun _ _ h => h) (fun _ _ _ h => h) NmV.gr) (by first | exact .no rfl | exact .yes rfl rfl) ?_ ?_
        · intro ρ k W hI hf
          obtain ⟨hρ0, hρ1, hρ2, _⟩ := hf
          have hg := hI.g
          have e0 : ρ (.func 19) = .func (.func 19) #[] #[] := hρ0
          have e1 : ρ (.tmp 49) = .agg #[.bool bx, .slice Ax nx cx] := hρ1
          have e2 : ρ (.tmp 50) = .agg #[.bool by_, .slice Ay ny cy] := hρ2
          clear hI hρ0 hρ1 hρ2
          go_simp
          refine (CB.out _ (hxd.gr hg) (hyd.gr hg)).mono ?_
          rintro e W' ⟨A', n', c', rfl, hn', hr', h1, h2, hg'⟩
          exact ⟨_, rfl, ⟨_, _, _, rfl, hn', hr', h1, h2⟩, hg'⟩
        repeat
          refine Vc.Walk.pure (v := ?_) (fun _ => Gr.rfl' _) rfl (by first | exact Vc.GuardYes.no rfl | exact Vc.GuardYes.yes rfl rfl) rfl rfl ?_ ?_
          rotate_left
          · intro _ W hI
            (have q := hI.g; clear hI; have y0 := q.cell z0.out.1; have y1 := q.cell z0.out.2; have y2 := q.cell z1.out.1; have y3 := q.cell z1.out.2; clear q)
            go_simp
            exact rfl
        refine Vc.Walk.any (.fits (Vc.All (NmV (fB) (LB)))) (st_gr (fun _ _ h => h) (fun _ _ _ h => h) NmV.gr) (by first | exact .no rfl | exact .yes rfl rfl) ?_ ?_
        · intro ρ k W hI hf
          obtain ⟨hρ0, hρ1, hρ2, _⟩ := hf
          have hg := hI.g
          have e0 : ρ (.func 24) = .func (.func 24) #[] #[] := hρ0
          have e1 : ρ (.tmp 52) = .agg #[.bool bx, .slice Ax nx cx] := hρ1
          have e2 : ρ (.tmp 53) = .agg #[.bool by_, .slice Ay ny cy] := hρ2
          clear hI hρ0 hρ1 hρ2
          go_simp
          refine (XB.out _ (hxd.gr hg) (hyd.gr hg)).mono ?_
          rintro e W' ⟨A', n', c', rfl, hn', hr', h1, h2, hg'⟩
          exact ⟨_, rfl, ⟨_, _, _, rfl, hn', hr', h1, h2⟩, hg'⟩
        refine Vc.Walk.any (.is (.bool true)) trivial (by first | exact .no rfl | exact .yes rfl rfl) ?_ ?_
        · intro ρ k W hI hf
          obtain ⟨hρ0, ⟨A1, n1, c1, hρ1, hn1, hr1, _⟩, ⟨A2, n2, c2, hρ2, hn2, hr2, _⟩, _⟩ := hf
          have hg := hI.g
          have e0 : ρ (.func 22) = .func (.func 22) #[] #[] := hρ0
          have e1 : ρ (.tmp 51) = .agg #[.bool (fB), .slice A1 n1 c1] := hρ1
          have e2 : ρ (.tmp 54) = .agg #[.bool (fB), .slice A2 n2 c2] := hρ2
          clear hI hρ0 hρ1 hρ2
          go_simp
          refine (EB.out _ _ _ c1 _ _ c2 _ hn1 hr1 hn2 hr2).mono ?_
          rintro e W' ⟨rfl, hg'⟩
          exact ⟨_, rfl, rfl, hg'⟩
        repeat
          refine Vc.Walk.pure (v := ?_) (fun _ => Gr.rfl' _) rfl (by first | exact Vc.GuardYes.no rfl | exact Vc.GuardYes.yes rfl rfl) rfl rfl ?_ ?_
          rotate_left
          · intro _ W hI
            (have q := hI.g; clear hI; have y0 := q.cell z0.out.1; have y1 := q.cell z0.out.2; have y2 := q.cell z1.out.1; have y3 := q.cell z1.out.2; clear q)
            go_simp
            exact rfl
        refine Vc.Walk.any (.fits (Vc.All (NmV (fE) (LE)))) (st_gr (fun _ _ h => h) (fun _ _ _ h => h) NmV.gr) (by first | exact .no rfl | exact .yes rfl rfl) ?_ ?_
        · intro ρ k W hI hf
          obtain ⟨hρ0, hρ1, hρ2, _⟩ := hf
          have hg := hI.g
          have e0 : ρ (.func 20) = .func (.func 20) #[] #[] := hρ0
          have e1 : ρ (.tmp 58) = .agg #[.bool bx, .slice Ax nx cx] := hρ1
          have e2 : ρ (.tmp 59) = .agg #[.bool by_, .slice Ay ny cy] := hρ2
          clear hI hρ0 hρ1 hρ2
          go_simp
          refine (CE.out _ (hxd.gr hg) (hyd.gr hg)).mono ?_
          rintro e W' ⟨A', n', c', rfl, hn', hr', h1, h2, hg'⟩
          exact ⟨_, rfl, ⟨_, _, _, rfl, hn', hr', h1, h2⟩, hg'⟩
        repeat
          refine Vc.Walk.pure (v := ?_) (fun _ => Gr.rfl' _) rfl (by first | exact Vc.GuardYes.no rfl | exact Vc.GuardYes.yes rfl rfl) rfl rfl ?_ ?_
          rotate_left
          · intro _ W hI
            (have q := hI.g; clear hI; have y0 := q.cell z0.out.1; have y1 := q.cell z0.out.2; have y2 := q.cell z1.out.1; have y3 := q.cell z1.out.2; clear q)
            go_simp
            exact rfl
        refine Vc.Walk.any (.fits (Vc.All (NmV (fE) (LE)))) (st_gr (fun _ _ h => h) (fun _ _ _ h => h) NmV.gr) (by first | exact .no rfl | exact .yes rfl rfl) ?_ ?_
        · intro ρ k W hI hf
          obtain ⟨hρ0, hρ1, hρ2, _⟩ := hf
          have hg := hI.g
          have e0 : ρ (.func 25) = .func (.func 25) #[] #[] := hρ0
          have e1 : ρ (.tmp 61) = .agg #[.bool bx, .slice Ax nx cx] := hρ1
          have e2 : ρ (.tmp 62) = .agg #[.bool by_, .slice Ay ny cy] := hρ2
          clear hI hρ0 hρ1 hρ2
          go_simp
          refine (XE.out _ (hxd.gr hg) (hyd.gr hg)).mono ?_
          rintro e W' ⟨A', n', c', rfl, hn', hr', h1, h2, hg'⟩
          exact ⟨_, rfl, ⟨_, _, _, rfl, hn', hr', h1, h2⟩, hg'⟩
        refine Vc.Walk.any (.is (.bool true)) trivial (by first | exact .no rfl | exact .yes rfl rfl) ?_ ?_
        · intro ρ k W hI hf
          obtain ⟨hρ0, ⟨A1, n1, c1, hρ1, hn1, hr1, _⟩, ⟨A2, n2, c2, hρ2, hn2, hr2, _⟩, _⟩ := hf
          have hg := hI.g
          have e0 : ρ (.func 22) = .func (.func 22) #[] #[] := hρ0
          have e1 : ρ (.tmp 60) = .agg #[.bool (fE), .slice A1 n1 c1] := hρ1
          have e2 : ρ (.tmp 63) = .agg #[.bool (fE), .slice A2 n2 c2] := hρ2
          clear hI hρ0 hρ1 hρ2
          go_simp
          refine (EE.out _ _ _ c1 _ _ c2 _ hn1 hr1 hn2 hr2).mono ?_
          rintro e W' ⟨rfl, hg'⟩
          exact ⟨_, rfl, rfl, hg'⟩
        repeat
          refine Vc.Walk.pure (v := ?_) (fun _ => Gr.rfl' _) rfl (by first | exact Vc.GuardYes.no rfl | exact Vc.GuardYes.yes rfl rfl) rfl rfl ?_ ?_
          rotate_left
          · intro _ W hI
            (have q := hI.g; clear hI; have y0 := q.cell z0.out.1; have y1 := q.cell z0.out.2; have y2 := q.cell z1.out.1; have y3 := q.cell z1.out.2; clear q)
            go_simp
            exact rfl
        refine Vc.Walk.any (.fits (Vc.All (NmV (fN) (LN)))) (st_gr (fun _ _ h => h) (fun _ _ _ h => h) NmV.gr) (by first | exact .no rfl | exact .yes rfl rfl) ?_ ?_
        · intro ρ k W hI hf
          obtain ⟨hρ0, hρ1, _⟩ := hf
          have hg := hI.g
          have e0 : ρ (.func 16) = .func (.func 16) #[] #[] := hρ0
          have e1 : ρ (.tmp 68) = .agg #[.bool bx, .slice Ax nx cx] := hρ1
          clear hI hρ0 hρ1
          go_simp
          refine (CN.out _ (hxd.gr hg)).mono ?_
          rintro e W' ⟨A', n', c', rfl, hn', hr', h1, h2, hg'⟩
          exact ⟨_, rfl, ⟨_, _, _, rfl, hn', hr', h1, h2⟩, hg'⟩
        repeat
          refine Vc.Walk.pure (v := ?_) (fun _ => Gr.rfl' _) rfl (by first | exact Vc.GuardYes.no rfl | exact Vc.GuardYes.yes rfl rfl) rfl rfl ?_ ?_
          rotate_left
          · intro _ W hI
            (have q := hI.g; clear hI; have y0 := q.cell z0.out.1; have y1 := q.cell z0.out.2; have y2 := q.cell z1.out.1; have y3 := q.cell z1.out.2; clear q)
            go_simp
            exact rfl
        refine Vc.Walk.any (.fits (Vc.All (NmV (fN) (LN)))) (st_gr (fun _ _ h => h) (fun _ _ _ h => h) NmV.gr) (by first | exact .no rfl | exact .yes rfl rfl) ?_ ?_
        · intro ρ k W hI hf
          obtain ⟨hρ0, hρ1, _⟩ := hf
          have hg := hI.g
          have e0 : ρ (.func 26) = .func (.func 26) #[] #[] := hρ0
          have e1 : ρ (.tmp 70) = .agg #[.bool bx, .slice Ax nx cx] := hρ1
          clear hI hρ0 hρ1
          go_simp
          refine (XN.out _ (hxd.gr hg)).mono ?_
          rintro e W' ⟨A', n', c', rfl, hn', hr', h1, h2, hg'⟩
          exact ⟨_, rfl, ⟨_, _, _, rfl, hn', hr', h1, h2⟩, hg'⟩
        refine Vc.Walk.any (.is (.bool true)) trivial (by first | exact .no rfl | exact .yes rfl rfl) ?_ ?_
        · intro ρ k W hI hf
          obtain ⟨hρ0, ⟨A1, n1, c1, hρ1, hn1, hr1, _⟩, ⟨A2, n2, c2, hρ2, hn2, hr2, _⟩, _⟩ := hf
          have hg := hI.g
          have e0 : ρ (.func 22) = .func (.func 22) #[] #[] := hρ0
          have e1 : ρ (.tmp 69) = .agg #[.bool (fN), .slice A1 n1 c1] := hρ1
          have e2 : ρ (.tmp 71) = .agg #[.bool (fN), .slice A2 n2 c2] := hρ2
          clear hI hρ0 hρ1 hρ2
          go_simp
          refine (EN.out _ _ _ c1 _ _ c2 _ hn1 hr1 hn2 hr2).mono ?_
          rintro e W' ⟨rfl, hg'⟩
          exact ⟨_, rfl, rfl, hg'⟩
        repeat
          refine Vc.Walk.pure (v := ?_) (fun _ => Gr.rfl' _) rfl (by first | exact Vc.GuardYes.no rfl | exact Vc.GuardYes.yes rfl rfl) rfl rfl ?_ ?_
          rotate_left
          · intro _ W hI
            (have q := hI.g; clear hI; have y0 := q.cell z0.out.1; have y1 := q.cell z0.out.2; have y2 := q.cell z1.out.1; have y3 := q.cell z1.out.2; clear q)
            go_simp
            exact rfl
        refine Vc.Walk.any (.is (.bool sv)) trivial (by first | exact .no rfl | exact .yes rfl rfl) ?_ ?_
        · intro ρ k W hI hf
          obtain ⟨hρ0, hρ1, hρ2, _⟩ := hf
          have hg := hI.g
          have e0 : ρ (.func 21) = .func (.func 21) #[] #[] := hρ0
          have e1 : ρ (.tmp 76) = .agg #[.bool bx, .slice Ax nx cx] := hρ1
          have e2 : ρ (.tmp 77) = .agg #[.bool by_, .slice Ay ny cy] := hρ2
          clear hI hρ0 hρ1 hρ2
          go_simp
          refine (CS.out _ (hxd.gr hg) (hyd.gr hg)).mono ?_
          rintro e W' ⟨rfl, hg'⟩
          exact ⟨_, rfl, rfl, hg'⟩
        repeat
          refine Vc.Walk.pure (v := ?_) (fun _ => Gr.rfl' _) rfl (by first | exact Vc.GuardYes.no rfl | exact Vc.GuardYes.yes rfl rfl) rfl rfl ?_ ?_
          rotate_left
          · intro _ W hI
            (have q := hI.g; clear hI; have y0 := q.cell z0.out.1; have y1 := q.cell z0.out.2; have y2 := q.cell z1.out.1; have y3 := q.cell z1.out.2; clear q)
            go_simp
            exact rfl
        refine Vc.Walk.any (.is (.bool sv)) trivial (by first | exact .no rfl | exact .yes rfl rfl) ?_ ?_
        · intro ρ k W hI hf
          obtain ⟨hρ0, hρ1, hρ2, _⟩ := hf
          have hg := hI.g
          have e0 : ρ (.func 27) = .func (.func 27) #[] #[] := hρ0
          have e1 : ρ (.tmp 79) = .agg #[.bool bx, .slice Ax nx cx] := hρ1
          have e2 : ρ (.tmp 80) = .agg #[.bool by_, .slice Ay ny cy] := hρ2
          clear hI hρ0 hρ1 hρ2
          go_simp
          refine (XS.out _ (hxd.gr hg) (hyd.gr hg)).mono ?_
          rintro e W' ⟨rfl, hg'⟩
          exact ⟨_, rfl, rfl, hg'⟩
        repeat
          refine Vc.Walk.pure (v := ?_) (fun _ => Gr.rfl' _) rfl (by first | exact Vc.GuardYes.no rfl | exact Vc.GuardYes.yes rfl rfl) rfl rfl ?_ ?_
          rotate_left
          · intro _ W hI
            (have q := hI.g; clear hI; have y0 := q.cell z0.out.1; have y1 := q.cell z0.out.2; have y2 := q.cell z1.out.1; have y3 := q.cell z1.out.2; clear q)
            go_simp
            exact rfl
        refine Vc.Walk.any (.is (.bool kv)) trivial (by first | exact .no rfl | exact .yes rfl rfl) ?_ ?_
        · intro ρ k W hI hf
          obtain ⟨hρ0, hρ1, _⟩ := hf
          have hg := hI.g
          have e0 : ρ (.func 23) = .func (.func 23) #[] #[] := hρ0
          have e1 : ρ (.tmp 85) = .agg #[.bool bx, .slice Ax nx cx] := hρ1
          clear hI hρ0 hρ1
          go_simp
          refine (CK.out _).mono ?_
          rintro e W' ⟨rfl, hg'⟩
          exact ⟨_, rfl, rfl, hg'⟩
        repeat
          refine Vc.Walk.pure (v := ?_) (fun _ => Gr.rfl' _) rfl (by first | exact Vc.GuardYes.no rfl | exact Vc.GuardYes.yes rfl rfl) rfl rfl ?_ ?_
          rotate_left
          · intro _ W hI
            (have q := hI.g; clear hI; have y0 := q.cell z0.out.1; have y1 := q.cell z0.out.2; have y2 := q.cell z1.out.1; have y3 := q.cell z1.out.2; clear q)
            go_simp
            exact rfl
        refine Vc.Walk.any (.is (.bool kv)) trivial (by first | exact .no rfl | exact .yes rfl rfl) ?_ ?_
        · intro ρ k W hI hf
          obtain ⟨hρ0, hρ1, _⟩ := hf
          have hg := hI.g
          have e0 : ρ (.func 28) = .func (.func 28) #[] #[] := hρ0
          have e1 : ρ (.tmp 87) = .agg #[.bool bx, .slice Ax nx cx] := hρ1
          clear hI hρ0 hρ1
          go_simp
          refine (XK.out _).mono ?_
          rintro e W' ⟨rfl, hg'⟩
          exact ⟨_, rfl, rfl, hg'⟩
        repeat
          refine Vc.Walk.pure (v := ?_) (fun _ => Gr.rfl' _) rfl (by first | exact Vc.GuardYes.no rfl | exact Vc.GuardYes.yes rfl rfl) rfl rfl ?_ ?_
          rotate_left
          · intro _ W hI
            (have q := hI.g; clear hI; have y0 := q.cell z0.out.1; have y1 := q.cell z0.out.2; have y2 := q.cell z1.out.1; have y3 := q.cell z1.out.2; clear q)
            go_simp
            exact rfl
        refine Vc.Walk.any (.is (.bool iv')) trivial (by first | exact .no rfl | exact .yes rfl rfl) ?_ ?_
        · intro ρ k W hI hf
          obtain ⟨hρ0, hρ1, hρ2, _⟩ := hf
          have hg := hI.g
          have e0 : ρ (.func 15) = .func (.func 15) #[] #[] := hρ0
          have e1 : ρ (.tmp 92) = .agg #[.bool bx, .slice Ax nx cx] := hρ1
          have e2 : ρ (.tmp 93) = encStr st := hρ2
          clear hI hρ0 hρ1 hρ2
          go_simp
          refine (CH.out _ (hxd.gr hg)).mono ?_
          rintro e W' ⟨rfl, hg'⟩
          exact ⟨_, rfl, rfl, hg'⟩
        repeat
          refine Vc.Walk.pure (v := ?_) (fun _ => Gr.rfl' _) rfl (by first | exact Vc.GuardYes.no rfl | exact Vc.GuardYes.yes rfl rfl) rfl rfl ?_ ?_
          rotate_left
          · intro _ W hI
            (have q := hI.g; clear hI; have y0 := q.cell z0.out.1; have y1 := q.cell z0.out.2; have y2 := q.cell z1.out.1; have y3 := q.cell z1.out.2; clear q)
            go_simp
            exact rfl
        refine Vc.Walk.any (.is (.bool iv')) trivial (by first | exact .no rfl | exact .yes rfl rfl) ?_ ?_
        · intro ρ k W hI hf
          obtain ⟨hρ0, hρ1, hρ2, _⟩ := hf
          have hg := hI.g
          have e0 : ρ (.func 29) = .func (.func 29) #[] #[] := hρ0
          have e1 : ρ (.tmp 95) = .agg #[.bool bx, .slice Ax nx cx] := hρ1
          have e2 : ρ (.tmp 96) = encStr st := hρ2
          clear hI hρ0 hρ1 hρ2
          go_simp
          refine (XH.out _ (hxd.gr hg)).mono ?_
          rintro e W' ⟨rfl, hg'⟩
          exact ⟨_, rfl, rfl, hg'⟩
        repeat
          refine Vc.Walk.pure (v := ?_) (fun _ => Gr.rfl' _) rfl (by first | exact Vc.GuardYes.no rfl | exact Vc.GuardYes.yes rfl rfl) rfl rfl ?_ ?_
          rotate_left
          · intro _ W hI
            (have q := hI.g; clear hI; have y0 := q.cell z0.out.1; have y1 := q.cell z0.out.2; have y2 := q.cell z1.out.1; have y3 := q.cell z1.out.2; clear q)
            go_simp
            exact rfl
        intro V2 hV2
        have hV2 : Gr Wb V2 := hV2
        simp only [List.reverse_cons, List.reverse_nil, List.nil_append, List.cons_append, Vc.finish, Act.put, List.setIfInBounds_toArray, List.set_cons_zero, List.set_cons_succ]
        intro u51 _ u54 _ u60 _ u63 _ u69 _ u71 _
        go_wp2_with fail
        go_roundw
        case rel => exact ⟨j + 1, by omega, by go_num, (hq.trans' G2).trans' hV2⟩
        case measure => simp [intOf]; omega
    · obtain rfl : j = 3 := by omega
      go_wp2_with fail
      go_ret
      exact ⟨rfl, hG3e.trans' hq⟩
end Go.Proofs.Ytbjkfllghkcgcaa.namesAll
