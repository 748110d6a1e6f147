/- The walk of NamesAlgebra. -/
import Derived.Test.YtbjkfllghkcgcaaNmM
set_option linter.unusedVariables false
set_option linter.unusedSimpArgs false
namespace Go.Proofs.Ytbjkfllghkcgcaa.namesAlgebra
open Go.RowKit Go.Sort

attribute [local go_sem] Vc.known_tmp Vc.known_const Vc.known_func Vc.known_global Vc.lk Vc.okUpon Vc.Fact.holds

theorem alg1 (b0 b1 : Bool) (X Y : List Str) : sameL (!(b0 && b1)) (!b0 || !b1) (ofL (bothL b0 b1 X Y)) (eitherL (!b0) (!b1) (ofL X) (ofL Y)) = true :=
  sameL_iff.2 ⟨by cases b0 <;> cases b1 <;> rfl, fun s => by rw [isIn_not, isIn_both, isIn_either, isIn_not, isIn_not]; cases isIn b0 X s <;> cases isIn b1 Y s <;> rfl⟩
theorem alg2 (b0 b1 b2 : Bool) (X Y Z : List Str) : sameL (b0 && (b1 || b2)) (b0 && b1 || b0 && b2) (bothL b0 (b1 || b2) X (eitherL b1 b2 Y Z)) (eitherL (b0 && b1) (b0 && b2) (bothL b0 b1 X Y) (bothL b0 b2 X Z)) = true :=
  sameL_iff.2 ⟨by cases b0 <;> cases b1 <;> cases b2 <;> rfl, fun s => by rw [isIn_both, isIn_either, isIn_either, isIn_both, isIn_both]; cases isIn b0 X s <;> cases isIn b1 Y s <;> cases isIn b2 Z s <;> rfl⟩
theorem alg3 (b0 : Bool) (X : List Str) : sameL (!!b0) b0 (ofL (ofL X)) X = true :=
  sameL_iff.2 ⟨by cases b0 <;> rfl, fun s => by rw [isIn_not, isIn_not]; cases isIn b0 X s <;> rfl⟩
theorem alg4 (b0 : Bool) (X : List Str) : noneL (b0 && !b0) (bothL b0 (!b0) X (ofL X)) = true := by
  refine noneL_iff.2 ⟨by cases b0 <;> rfl, fun s => ?_⟩
  have h := isIn_both b0 (!b0) X (ofL X) s
  have e : (b0 && !b0) = false := by cases b0 <;> rfl
  rw [e] at h
  rw [h, isIn_not]
  cases isIn b0 X s <;> rfl

theorem makes_names {o : Oper} (hg : o.guard = none) (ho : o.op = .alloc 25) : Vc.Makes Try.prog o := by
  refine ⟨hg, fun ρ w n w' h => ?_⟩
  obtain ⟨d, op, ty, pos, af, gd⟩ := o
  simp only at ho
  subst ho
  simp [execOp, go_sem] at h
  obtain ⟨rfl, rfl⟩ := h
  exact ⟨rfl, (Row.new w _ _).lt⟩

theorem has_str (b : Bool) (A : Option Addr) (n c : Nat) (L : List Str) (s : Str) (w : World) (hn : Hid (L.length = n)) (hr : Rd w A (L.map encStr)) (hl : n ≤ 1000000) :
    Calls Try.prog 15 #[.agg #[.bool b, .slice A n c], encStr s] w fun e w' => e = .returned (.bool (isIn b L s)) ∧ Gr w w' := has_any b A n c L ⟨s.toArray⟩ w hn hr hl
theorem calls_eq {f : FuncId} {args : Array Value} {w : World} {v v' : Bool} (h : v = v') (H : Calls Try.prog f args w fun e w' => e = .returned (.bool v) ∧ Gr w w') : Calls Try.prog f args w fun e w' => e = .returned (.bool v') ∧ Gr w w' := h ▸ H
def strs7 (st : Str) : List Str := [[], [97], [98], [99], [100], [101], st]
theorem code_at {P : Program} {c : Code} {Q : Exit → Act → World → Prop} {a : Act} {w w' : World} (h : w' = w) (H : c.wp P Q a w') : c.wp P Q a w := h ▸ H

set_option maxRecDepth 20000 in
set_option maxHeartbeats 8000000 in
theorem walk (w : World) (b0 : Bool) (A0 : Option Addr) (n0 c0 : Nat) (L0 : List Str) (hn0 : Hid (L0.length = n0)) (hr0 : Rd w A0 (L0.map encStr)) (hs0 : ∀ s ∈ L0, s.length ≤ maxLen) (hl0 : n0 ≤ maxLen)
    (b1 : Bool) (A1 : Option Addr) (n1 c1 : Nat) (L1 : List Str) (hn1 : Hid (L1.length = n1)) (hr1 : Rd w A1 (L1.map encStr)) (hs1 : ∀ s ∈ L1, s.length ≤ maxLen) (hl1 : n1 ≤ maxLen)
    (b2 : Bool) (A2 : Option Addr) (n2 c2 : Nat) (L2 : List Str) (hn2 : Hid (L2.length = n2)) (hr2 : Rd w A2 (L2.map encStr)) (hs2 : ∀ s ∈ L2, s.length ≤ maxLen) (hl2 : n2 ≤ maxLen)
    (st : Str) :
    Calls Try.prog 7 #[.agg #[.bool b0, .slice A0 n0 c0], .agg #[.bool b1, .slice A1 n1 c1], .agg #[.bool b2, .slice A2 n2 c2], encStr st] w fun e w' => e = .returned (.bool true) ∧ Below w.heap.size w w' := by
  have HM0 := Lib.hid (fun W h => make_any b0 A0 n0 c0 L0 W hn0 h hl0 hs0)
  have HM1 := Lib.hid (fun W h => make_any b1 A1 n1 c1 L1 W hn1 h hl1 hs1)
  have HM2 := Lib.hid (fun W h => make_any b2 A2 n2 c2 L2 W hn2 h hl2 hs2)
  have hX6 := mkL_length L0
  have hY6 := mkL_length L1
  have hZ6 := mkL_length L2
  generalize mkL L0 = X at *
  generalize mkL L1 = Y at *
  generalize mkL L2 = Z at *
  obtain ⟨hb0, hb1, hb2, hg0⟩ := new3 w 25 25 25 [.bool b0, .slice A0 n0 c0] [.bool b1, .slice A1 n1 c1] [.bool b2, .slice A2 n2 c2]
  go_enter Try.func7, Try.ntmps7
  go_wp2_with (go_at_call 8; refine (known3_any _).mono ?_; rintro e w1 ⟨rfl, hg1⟩)
  have hG1 := hg0.trans' hg1
  have hc0 := Lib.hid (show w1.cell? ⟨w.heap.size, 0, none⟩ = some (.bool b0) ∧ w1.cell? ⟨w.heap.size, 1, none⟩ = some (.slice A0 n0 c0) from ⟨(hb0.gr hg1).cell 0, (hb0.gr hg1).cell 1⟩)
  have hc1 := Lib.hid (show w1.cell? ⟨w.heap.size + 1, 0, none⟩ = some (.bool b1) ∧ w1.cell? ⟨w.heap.size + 1, 1, none⟩ = some (.slice A1 n1 c1) from ⟨(hb1.gr hg1).cell 0, (hb1.gr hg1).cell 1⟩)
  have hc2 := Lib.hid (show w1.cell? ⟨w.heap.size + 1 + 1, 0, none⟩ = some (.bool b2) ∧ w1.cell? ⟨w.heap.size + 1 + 1, 1, none⟩ = some (.slice A2 n2 c2) from ⟨(hb2.gr hg1).cell 0, (hb2.gr hg1).cell 1⟩)
  have hd0 := hr0.gr hG1
  have hd1 := hr1.gr hG1
  have hd2 := hr2.gr hG1
  clear hb0 hb1 hb2 hr0 hr1 hr2 hg0
  refine Vc.wp_region_split ⟨Gr, fun _ => Gr, fun _ W => Gr w1 W, []⟩ 9 [6, 7, 8] (by kernel_rfl) (by kernel_rfl) (by kernel_rfl) (by decide) (by simp) ?_ (by simp) (fun _ _ h => h.size) (fun _ _ _ h => h.size) (fun _ _ _ h h' => h'.trans' h) (Gr.draw _) ?_
  · intro i hi
    simp only [List.mem_cons, List.not_mem_nil, or_false] at hi
    rcases hi with rfl | rfl | rfl
    · exact ⟨_, rfl, makes_names rfl rfl⟩
    · exact ⟨_, rfl, makes_names rfl rfl⟩
    · exact ⟨_, rfl, makes_names rfl rfl⟩
  repeat
    refine Vc.Walk.pure (v := ?_) (fun _ => Gr.rfl' _) rfl (by first | exact Vc.GuardYes.no rfl | exact Vc.GuardYes.yes rfl rfl) rfl rfl ?_ ?_
    rotate_left
    · intro _ W hI
      (have y0 := hI.g.cell hc0.out.1; have y1 := hI.g.cell hc0.out.2; have y2 := hI.g.cell hc1.out.1; have y3 := hI.g.cell hc1.out.2; have y4 := hI.g.cell hc2.out.1; have y5 := hI.g.cell hc2.out.2; clear hI)
      go_simp
      exact rfl
  refine Vc.Walk.any (.fits (Vc.All (NmV (b0) (X)))) (st_gr (fun _ _ h => h) (fun _ _ _ h => h) NmV.gr) (by first | exact .no rfl | exact .yes rfl rfl) ?_ ?_
  · intro ρ k W hI hf
    obtain ⟨hρ0, hρ1, _⟩ := hf
    have hg := hI.g
    have e0 : ρ (.func 17) = .func (.func 17) #[] #[] := hρ0
    have e1 : ρ (.tmp 18) = .agg #[.bool b0, .slice A0 n0 c0] := hρ1
    clear hI hρ0 hρ1
    go_simp
    refine (HM0.out _ (hd0.gr hg)).mono ?_
    rintro e W' ⟨A', n', c', rfl, hn', hr', h1, h2, hg'⟩
    exact ⟨_, rfl, ⟨_, _, _, rfl, hn', hr', h1, h2⟩, hg'⟩
  repeat
    refine Vc.Walk.pure (v := ?_) (fun _ => Gr.rfl' _) rfl (by first | exact Vc.GuardYes.no rfl | exact Vc.GuardYes.yes rfl rfl) rfl rfl ?_ ?_
    rotate_left
    · intro _ W hI
      (have y0 := hI.g.cell hc0.out.1; have y1 := hI.g.cell hc0.out.2; have y2 := hI.g.cell hc1.out.1; have y3 := hI.g.cell hc1.out.2; have y4 := hI.g.cell hc2.out.1; have y5 := hI.g.cell hc2.out.2; clear hI)
      go_simp
      exact rfl
  refine Vc.Walk.any (.fits (Vc.All (NmV (b1) (Y)))) (st_gr (fun _ _ h => h) (fun _ _ _ h => h) NmV.gr) (by first | exact .no rfl | exact .yes rfl rfl) ?_ ?_
  · intro ρ k W hI hf
    obtain ⟨hρ0, hρ1, _⟩ := hf
    have hg := hI.g
    have e0 : ρ (.func 17) = .func (.func 17) #[] #[] := hρ0
    have e1 : ρ (.tmp 20) = .agg #[.bool b1, .slice A1 n1 c1] := hρ1
    clear hI hρ0 hρ1
    go_simp
    refine (HM1.out _ (hd1.gr hg)).mono ?_
    rintro e W' ⟨A', n', c', rfl, hn', hr', h1, h2, hg'⟩
    exact ⟨_, rfl, ⟨_, _, _, rfl, hn', hr', h1, h2⟩, hg'⟩
  repeat
    refine Vc.Walk.pure (v := ?_) (fun _ => Gr.rfl' _) rfl (by first | exact Vc.GuardYes.no rfl | exact Vc.GuardYes.yes rfl rfl) rfl rfl ?_ ?_
    rotate_left
    · intro _ W hI
      (have y0 := hI.g.cell hc0.out.1; have y1 := hI.g.cell hc0.out.2; have y2 := hI.g.cell hc1.out.1; have y3 := hI.g.cell hc1.out.2; have y4 := hI.g.cell hc2.out.1; have y5 := hI.g.cell hc2.out.2; clear hI)
      go_simp
      exact rfl
  refine Vc.Walk.any (.fits (Vc.All (NmV (b2) (Z)))) (st_gr (fun _ _ h => h) (fun _ _ _ h => h) NmV.gr) (by first | exact .no rfl | exact .yes rfl rfl) ?_ ?_
  · intro ρ k W hI hf
    obtain ⟨hρ0, hρ1, _⟩ := hf
    have hg := hI.g
    have e0 : ρ (.func 17) = .func (.func 17) #[] #[] := hρ0
    have e1 : ρ (.tmp 22) = .agg #[.bool b2, .slice A2 n2 c2] := hρ1
    clear hI hρ0 hρ1
    go_simp
    refine (HM2.out _ (hd2.gr hg)).mono ?_
    rintro e W' ⟨A', n', c', rfl, hn', hr', h1, h2, hg'⟩
    exact ⟨_, rfl, ⟨_, _, _, rfl, hn', hr', h1, h2⟩, hg'⟩
  refine Vc.Walk.call (.fits (Vc.All (PtrV w1.heap.size 25 [.bool false, .slice none 0 0]))) (st_gr (fun _ _ h => h) (fun _ _ _ h => h) PtrV.gr) (.no rfl) rfl rfl ?_ ?_
  · intro k W hI
    have hg := hI.g
    clear hI
    go_simp
    exact ⟨⟨_, rfl, hg.size, Row.new _ _ _⟩, Gr.alloc1 _ _⟩
  refine Vc.Walk.call (.fits (Vc.All (PtrV w1.heap.size 25 [.bool false, .slice none 0 0]))) (st_gr (fun _ _ h => h) (fun _ _ _ h => h) PtrV.gr) (.no rfl) rfl rfl ?_ ?_
  · intro k W hI
    have hg := hI.g
    clear hI
    go_simp
    exact ⟨⟨_, rfl, hg.size, Row.new _ _ _⟩, Gr.alloc1 _ _⟩
  refine Vc.Walk.call (.fits (Vc.All (PtrV w1.heap.size 25 [.bool false, .slice none 0 0]))) (st_gr (fun _ _ h => h) (fun _ _ _ h => h) PtrV.gr) (.no rfl) rfl rfl ?_ ?_
  · intro k W hI
    have hg := hI.g
    clear hI
    go_simp
    exact ⟨⟨_, rfl, hg.size, Row.new _ _ _⟩, Gr.alloc1 _ _⟩
  intro W hW
  have hW : Gr w1 W := hW
  clear HM0 HM1 HM2 hc0 hc1 hc2 hd0 hd1 hd2
  simp only [List.reverse_cons, List.reverse_nil, List.nil_append, List.cons_append, Vc.finish, Act.put, List.setIfInBounds_toArray, List.set_cons_zero, List.set_cons_succ]
  rintro u19 ⟨Ax, nx, cx, rfl, hnx, hrx, _⟩ u21 ⟨Ay, ny, cy, rfl, hny, hry, _⟩ u23 ⟨Az, nz, cz, rfl, hnz, hrz, _⟩ u9 ⟨g9, rfl, h9, hR9⟩ u10 ⟨g10, rfl, h10, hR10⟩ u11 ⟨g11, rfl, h11, hR11⟩ hap
  have hne1 : g9 ≠ g10 := by intro e; exact hap 6 (by simp) 7 (by simp) (by decide) 9 10 rfl rfl (by subst e; rfl)
  have hne2 : g9 ≠ g11 := by intro e; exact hap 6 (by simp) 8 (by simp) (by decide) 9 11 rfl rfl (by subst e; rfl)
  have hne3 : g10 ≠ g11 := by intro e; exact hap 7 (by simp) 8 (by simp) (by decide) 10 11 rfl rfl (by subst e; rfl)
  clear hap
  simp only [List.drop_succ_cons, List.drop_zero]
  obtain ⟨s1, k1, G1⟩ := res2 hR9 hW h9 (.bool b0) (.slice Ax nx cx)
  have q10 := hR10.only k1 (fun e => hne1 e.symm)
  have q11 := hR11.only k1 (fun e => hne2 e.symm)
  have x1 := hrx.keepStr hR9 (by simp) k1
  have y1 := hry.keepStr hR9 (by simp) k1
  have z1 := hrz.keepStr hR9 (by simp) k1
  have f90 : W.cell? ⟨g9, 0, none⟩ = some (.bool false) := hR9.cell 0
  have f91 : W.cell? ⟨g9, 1, none⟩ = some (.slice none 0 0) := hR9.cell 1
  have f92 : W.frozen? ⟨g9, 0, none⟩ = false := hR9.frozen 0
  have f93 : W.frozen? ⟨g9, 1, none⟩ = false := hR9.frozen 1
  clear hR9 hR10 hR11 hrx hry hrz
  go_wp2_with (first
    | (with_reducible refine wpList_atW ((W.setCell ⟨g9, 0, none⟩ (.bool b0)).setCell ⟨g9, 1, none⟩ (.slice Ax nx cx)) ?_
       generalize (W.setCell ⟨g9, 0, none⟩ (.bool b0)).setCell ⟨g9, 1, none⟩ (.slice Ax nx cx) = Wa at *
       clear f90 f91 f92 f93
       obtain ⟨s2, k2, G2⟩ := res2 q10 G1 h10 (.bool b1) (.slice Ay ny cy)
       have s1 := s1.only k2 hne1
       have r11 := q11.only k2 (fun e => hne3 e.symm)
       have x2 := x1.keepStr q10 (by simp) k2
       have y2 := y1.keepStr q10 (by simp) k2
       have z2 := z1.keepStr q10 (by simp) k2
       have f90 : Wa.cell? ⟨g10, 0, none⟩ = some (.bool false) := q10.cell 0
       have f91 : Wa.cell? ⟨g10, 1, none⟩ = some (.slice none 0 0) := q10.cell 1
       have f92 : Wa.frozen? ⟨g10, 0, none⟩ = false := q10.frozen 0
       have f93 : Wa.frozen? ⟨g10, 1, none⟩ = false := q10.frozen 1
       clear q10 q11 x1 y1 z1)
    | (with_reducible refine wpList_atW ((Wa.setCell ⟨g10, 0, none⟩ (.bool b1)).setCell ⟨g10, 1, none⟩ (.slice Ay ny cy)) ?_
       generalize (Wa.setCell ⟨g10, 0, none⟩ (.bool b1)).setCell ⟨g10, 1, none⟩ (.slice Ay ny cy) = Wb at *
       clear f90 f91 f92 f93
       obtain ⟨s3, k3, G3⟩ := res2 r11 G2 h11 (.bool b2) (.slice Az nz cz)
       have s1 := s1.only k3 hne2
       have s2 := s2.only k3 hne3
       have x3 := x2.keepStr r11 (by simp) k3
       have y3 := y2.keepStr r11 (by simp) k3
       have z3 := z2.keepStr r11 (by simp) k3
       have f90 : Wb.cell? ⟨g11, 0, none⟩ = some (.bool false) := r11.cell 0
       have f91 : Wb.cell? ⟨g11, 1, none⟩ = some (.slice none 0 0) := r11.cell 1
       have f92 : Wb.frozen? ⟨g11, 0, none⟩ = false := r11.frozen 0
       have f93 : Wb.frozen? ⟨g11, 1, none⟩ = false := r11.frozen 1
       clear r11 x2 y2 z2)
    | (with_reducible refine wpList_hereW 25 ((Wb.setCell ⟨g11, 0, none⟩ (.bool b2)).setCell ⟨g11, 1, none⟩ (.slice Az nz cz)) rfl ?_
       generalize (Wb.setCell ⟨g11, 0, none⟩ (.bool b2)).setCell ⟨g11, 1, none⟩ (.slice Az nz cz) = Wc at *
       clear f90 f91 f92 f93))

  obtain ⟨Wd, hWd⟩ : ∃ W, W = Wc.alloc (.cells ((strs7 st).map encStr).toArray 9) := ⟨_, rfl⟩
  refine code_at hWd ?_
  have hLr := Row.new Wc 9 ((strs7 st).map encStr)
  have hgd := Gr.alloc1 Wc (.cells ((strs7 st).map encStr).toArray 9)
  rw [← hWd] at hLr hgd
  clear hWd
  have hGd := (hG1.trans' G3).trans' hgd
  have hcx := Lib.hid (show Wd.cell? ⟨g9, 0, none⟩ = some (.bool b0) ∧ Wd.cell? ⟨g9, 1, none⟩ = some (.slice Ax nx cx) from ⟨(s1.gr hgd).cell 0, (s1.gr hgd).cell 1⟩)
  have hcy := Lib.hid (show Wd.cell? ⟨g10, 0, none⟩ = some (.bool b1) ∧ Wd.cell? ⟨g10, 1, none⟩ = some (.slice Ay ny cy) from ⟨(s2.gr hgd).cell 0, (s2.gr hgd).cell 1⟩)
  have hcz := Lib.hid (show Wd.cell? ⟨g11, 0, none⟩ = some (.bool b2) ∧ Wd.cell? ⟨g11, 1, none⟩ = some (.slice Az nz cz) from ⟨(s3.gr hgd).cell 0, (s3.gr hgd).cell 1⟩)
  have hxd := x3.gr hgd
  have hyd := y3.gr hgd
  have hzd := z3.gr hgd
  have hnx6 : nx ≤ 6 := by have := hnx.out; omega
  have hny6 : ny ≤ 6 := by have := hny.out; omega
  have hnz6 : nz ≤ 6 := by have := hnz.out; omega
  clear s1 s2 s3 x3 y3 z3 k1 k2 k3 G1 G2 G3 hW hne1 hne2 hne3 h9 h10 h11 hgd hG1 hg1
  -- lengths
  have l1 := bothL_length b0 b1 X Y
  have l2 := bothL_length b0 b2 X Z
  have l3 := eitherL_length b0 b1 X Y
  have l4 := eitherL_length b1 b2 Y Z
  have l5 := ofL_length_le X
  have l6 := ofL_length_le Y
  have l7 := ofL_length_le (bothL b0 b1 X Y)
  have l8 := eitherL_length (!b0) (!b1) (ofL X) (ofL Y)
  have l9 := bothL_length b0 (b1 || b2) X (eitherL b1 b2 Y Z)
  have l10 := eitherL_length (b0 && b1) (b0 && b2) (bothL b0 b1 X Y) (bothL b0 b2 X Z)
  have l11 := ofL_length_le (ofL X)
  have l12 := bothL_length b0 (!b0) X (ofL X)
  have HXY := Lib.hid (fun W h h' => both_any b0 Ax nx cx X b1 Ay ny cy Y W hnx h (by omega) hny h' (by omega))
  have HXZ := Lib.hid (fun W h h' => both_any b0 Ax nx cx X b2 Az nz cz Z W hnx h (by omega) hnz h' (by omega))
  have HEXY := Lib.hid (fun W h h' => either_any b0 Ax nx cx X b1 Ay ny cy Y W hnx h (by omega) hny h' (by omega))
  have HEYZ := Lib.hid (fun W h h' => either_any b1 Ay ny cy Y b2 Az nz cz Z W hny h (by omega) hnz h' (by omega))
  have HNX := Lib.hid (fun W h => not_any b0 Ax nx cx X W hnx h (by omega))
  have HNY := Lib.hid (fun W h => not_any b1 Ay ny cy Y W hny h (by omega))
  have HNXY := Lib.hid (fun A n c W (h1 : Hid ((bothL b0 b1 X Y).length = n)) h => not_any (b0 && b1) A n c _ W h1 h (by have := h1.out; omega))
  have HENN := Lib.hid (fun A n c A' n' c' W (h1 : Hid ((ofL X).length = n)) h (h1' : Hid ((ofL Y).length = n')) h' => either_any (!b0) A n c (ofL X) (!b1) A' n' c' (ofL Y) W h1 h (by have := h1.out; omega) h1' h' (by have := h1'.out; omega))
  have HS1 := Lib.hid (fun A n c A' n' c' W (h1 : Hid ((ofL (bothL b0 b1 X Y)).length = n)) h (h1' : Hid ((eitherL (!b0) (!b1) (ofL X) (ofL Y)).length = n')) h' => calls_eq (alg1 b0 b1 X Y) <| same_any (!(b0 && b1)) A n c _ (!b0 || !b1) A' n' c' _ W h1 h (by have := h1.out; omega) h1' h' (by have := h1'.out; omega))
  have HB4 := Lib.hid (fun A' n' c' W h (h1' : Hid ((eitherL b1 b2 Y Z).length = n')) h' => both_any b0 Ax nx cx X (b1 || b2) A' n' c' _ W hnx h (by omega) h1' h' (by have := h1'.out; omega))
  have HE5 := Lib.hid (fun A n c A' n' c' W (h1 : Hid ((bothL b0 b1 X Y).length = n)) h (h1' : Hid ((bothL b0 b2 X Z).length = n')) h' => either_any (b0 && b1) A n c _ (b0 && b2) A' n' c' _ W h1 h (by have := h1.out; omega) h1' h' (by have := h1'.out; omega))
  have HS2 := Lib.hid (fun A n c A' n' c' W (h1 : Hid ((bothL b0 (b1 || b2) X (eitherL b1 b2 Y Z)).length = n)) h (h1' : Hid ((eitherL (b0 && b1) (b0 && b2) (bothL b0 b1 X Y) (bothL b0 b2 X Z)).length = n')) h' => calls_eq (alg2 b0 b1 b2 X Y Z) <| same_any (b0 && (b1 || b2)) A n c _ (b0 && b1 || b0 && b2) A' n' c' _ W h1 h (by have := h1.out; omega) h1' h' (by have := h1'.out; omega))
  have HNN := Lib.hid (fun A n c W (h1 : Hid ((ofL X).length = n)) h => not_any (!b0) A n c _ W h1 h (by have := h1.out; omega))
  have HS3 := Lib.hid (fun A n c W (h1 : Hid ((ofL (ofL X)).length = n)) h h' => calls_eq (alg3 b0 X) <| same_any (!!b0) A n c _ b0 Ax nx cx X W h1 h (by have := h1.out; omega) hnx h' (by omega))
  have HB7 := Lib.hid (fun A' n' c' W h (h1' : Hid ((ofL X).length = n')) h' => both_any b0 Ax nx cx X (!b0) A' n' c' _ W hnx h (by omega) h1' h' (by have := h1'.out; omega))
  have HK7 := Lib.hid (fun A n c W (h1 : Hid ((bothL b0 (!b0) X (ofL X)).length = n)) => calls_eq (alg4 b0 X) <| none_any (b0 && !b0) A n c _ W h1)
  have HX := Lib.hid (fun s W h => has_str b0 Ax nx cx X s W hnx h (by omega))
  have HY := Lib.hid (fun s W h => has_str b1 Ay ny cy Y s W hny h (by omega))
  have HHB := Lib.hid (fun s A n c W (h1 : Hid ((bothL b0 b1 X Y).length = n)) h => calls_eq (isIn_both b0 b1 X Y s) <| has_str (b0 && b1) A n c _ s W h1 h (by have := h1.out; omega))
  have HHE := Lib.hid (fun s A n c W (h1 : Hid ((eitherL b0 b1 X Y).length = n)) h => calls_eq (isIn_either b0 b1 X Y s) <| has_str (b0 || b1) A n c _ s W h1 h (by have := h1.out; omega))
  have HHN := Lib.hid (fun s A n c W (h1 : Hid ((ofL X).length = n)) h => calls_eq (isIn_not b0 X s) <| has_str (!b0) A n c _ s W h1 h (by have := h1.out; omega))
  clear l1 l2 l3 l4 l5 l6 l7 l8 l9 l10 l11 l12 hX6 hY6 hZ6
  generalize isIn b0 X = pX at *
  generalize isIn b1 Y = pY at *
  generalize ofL (bothL b0 b1 X Y) = M1 at *
  generalize eitherL (!b0) (!b1) (ofL X) (ofL Y) = M2 at *
  generalize bothL b0 (b1 || b2) X (eitherL b1 b2 Y Z) = M4 at *
  generalize eitherL (b0 && b1) (b0 && b2) (bothL b0 b1 X Y) (bothL b0 b2 X Z) = M5 at *
  generalize ofL (ofL X) = M6 at *
  generalize bothL b0 (!b0) X (ofL X) = M7 at *
  generalize bothL b0 b1 X Y = LXY at *
  generalize bothL b0 b2 X Z = LXZ at *
  generalize eitherL b0 b1 X Y = EXY at *
  generalize eitherL b1 b2 Y Z = EYZ at *
  generalize ofL X = NX at *
  generalize ofL Y = NY at *
  generalize (!(b0 && b1)) = f1 at *
  generalize (!b0 || !b1) = f2 at *
  generalize (b0 && (b1 || b2)) = f4 at *
  generalize (b0 && b1 || b0 && b2) = f5 at *
  generalize (!!b0) = f6 at *
  generalize (b0 && !b0) = f7 at *
  generalize (b0 && b1) = fXY at *
  generalize (b0 && b2) = fXZ at *
  generalize (b0 || b1) = eXY at *
  generalize (b1 || b2) = eYZ at *
  generalize (!b0) = vX at *
  generalize (!b1) = vY at *
  go_loopw [13] (fun i wr => ∃ j : Nat, j ≤ 7 ∧ i = .int .i64 j ∧ Gr Wd wr) (fun i _ => 7 - (intOf i).toNat)
  case atStart => exact ⟨0, by omega, rfl, Gr.rfl' _⟩
  case round =>
    obtain ⟨j, hj, rfl, hb⟩ := hrel
    by_cases hlt : j < 7
    · obtain ⟨sj, hsj⟩ : ∃ sj, ((strs7 st).map encStr)[j]? = some (encStr sj) := ⟨(strs7 st)[j]'(by simpa [strs7] using hlt), by rw [List.getElem?_map, List.getElem?_eq_getElem (by simpa [strs7] using hlt)]; rfl⟩
      have hcl := Lib.hid ((hLr.cell j).trans hsj)
      have KX := Lib.hid (HX.out sj)
      have KY := Lib.hid (HY.out sj)
      have KB := Lib.hid (HHB.out sj)
      have KE := Lib.hid (HHE.out sj)
      have KN := Lib.hid (HHN.out sj)
      have hjl := hlt
      generalize pX sj = p at *
      generalize pY sj = q at *
      clear hsj HX HY HHB HHE HHN
      cases p <;> cases q
      all_goals
        go_wp2_with fail
        refine Vc.wp_region_facts ⟨Gr, fun _ => Gr, fun _ W => Gr Wd W, []⟩ (by kernel_rfl) (by kernel_rfl) (fun _ _ _ h h' => h'.trans' h) (hb.trans' (Gr.draw _)) ?_
        repeat
          refine Vc.Walk.pure (v := ?_) (fun _ => Gr.rfl' _) rfl (by first | exact Vc.GuardYes.no rfl | exact Vc.GuardYes.yes rfl rfl) rfl rfl ?_ ?_
          rotate_left
          · intro _ W hI
            (have y0 := hI.g.cell hcx.out.1; have y1 := hI.g.cell hcx.out.2; have y2 := hI.g.cell hcy.out.1; have y3 := hI.g.cell hcy.out.2; have y4 := hI.g.cell hcl.out; clear hI)
            go_simp
            exact rfl
        refine Vc.Walk.any (.is ?_) trivial (by first | exact .no rfl | exact .yes rfl rfl) ?_ ?_
        rotate_left
        · intro ρ k W hI hf
          obtain ⟨hρ0, hρ1, hρ2, _⟩ := hf
          have hg := hI.g
          have e0 : ρ (.func 15) = .func (.func 15) #[] #[] := hρ0
          have e1 : ρ (.tmp 32) = .agg #[.bool b0, .slice Ax nx cx] := hρ1
          have e2 : ρ (.tmp 36) = encStr sj := hρ2
          clear hI hρ0 hρ1 hρ2
          go_simp
          refine (KX.out _ (hxd.gr hg)).mono ?_
          rintro e W' ⟨rfl, hg'⟩
          refine ⟨_, rfl, ?_, hg'⟩
          exact rfl
        repeat
          refine Vc.Walk.pure (v := ?_) (fun _ => Gr.rfl' _) rfl (by first | exact Vc.GuardYes.no rfl | exact Vc.GuardYes.yes rfl rfl) rfl rfl ?_ ?_
          rotate_left
          · intro _ W hI
            (have y0 := hI.g.cell hcx.out.1; have y1 := hI.g.cell hcx.out.2; have y2 := hI.g.cell hcy.out.1; have y3 := hI.g.cell hcy.out.2; have y4 := hI.g.cell hcl.out; clear hI)
            go_simp
            exact rfl
        refine Vc.Walk.any (.is ?_) trivial (by first | exact .no rfl | exact .yes rfl rfl) ?_ ?_
        rotate_left
        · intro ρ k W hI hf
          obtain ⟨hρ0, hρ1, hρ2, _⟩ := hf
          have hg := hI.g
          have e0 : ρ (.func 15) = .func (.func 15) #[] #[] := hρ0
          have e1 : ρ (.tmp 38) = .agg #[.bool b1, .slice Ay ny cy] := hρ1
          have e2 : ρ (.tmp 42) = encStr sj := hρ2
          clear hI hρ0 hρ1 hρ2
          go_simp
          refine (KY.out _ (hyd.gr hg)).mono ?_
          rintro e W' ⟨rfl, hg'⟩
          refine ⟨_, rfl, ?_, hg'⟩
          exact rfl
        repeat
          refine Vc.Walk.pure (v := ?_) (fun _ => Gr.rfl' _) rfl (by first | exact Vc.GuardYes.no rfl | exact Vc.GuardYes.yes rfl rfl) rfl rfl ?_ ?_
          rotate_left
          · intro _ W hI
            (have y0 := hI.g.cell hcx.out.1; have y1 := hI.g.cell hcx.out.2; have y2 := hI.g.cell hcy.out.1; have y3 := hI.g.cell hcy.out.2; have y4 := hI.g.cell hcl.out; clear hI)
            go_simp
            exact rfl
        intro W hW
        have hW : Gr Wd W := hW
        simp only [List.reverse_cons, List.reverse_nil, List.nil_append, List.cons_append, Vc.finish, Act.put, List.setIfInBounds_toArray, List.set_cons_zero, List.set_cons_succ]
        go_wp2_with fail
        refine Vc.wp_region_facts ⟨Gr, fun _ => Gr, fun _ W => Gr Wd W, []⟩ (by kernel_rfl) (by kernel_rfl) (fun _ _ _ h h' => h'.trans' h) (hW.trans' (Gr.draw _)) ?_
        repeat
          refine Vc.Walk.pure (v := ?_) (fun _ => Gr.rfl' _) rfl (by first | exact Vc.GuardYes.no rfl | exact Vc.GuardYes.yes rfl rfl) rfl rfl ?_ ?_
          rotate_left
          · intro _ W hI
            (have y0 := hI.g.cell hcx.out.1; have y1 := hI.g.cell hcx.out.2; have y2 := hI.g.cell hcy.out.1; have y3 := hI.g.cell hcy.out.2; have y4 := hI.g.cell hcl.out; clear hI)
            go_simp
            exact rfl
        refine Vc.Walk.any (.fits (Vc.All (NmV (fXY) (LXY)))) (st_gr (fun _ _ h => h) (fun _ _ _ h => h) NmV.gr) (by first | exact .no rfl | exact .yes rfl rfl) ?_ ?_
        · intro ρ k W hI hf
          obtain ⟨hρ0, hρ1, hρ2, _⟩ := hf
          have hg := hI.g
          have e0 : ρ (.func 19) = .func (.func 19) #[] #[] := hρ0
          have e1 : ρ (.tmp 44) = .agg #[.bool b0, .slice Ax nx cx] := hρ1
          have e2 : ρ (.tmp 45) = .agg #[.bool b1, .slice Ay ny cy] := hρ2
          clear hI hρ0 hρ1 hρ2
          go_simp
          refine (HXY.out _ (hxd.gr hg) (hyd.gr hg)).mono ?_
          rintro e W' ⟨A', n', c', rfl, hn', hr', h1, h2, hg'⟩
          exact ⟨_, rfl, ⟨_, _, _, rfl, hn', hr', h1, h2⟩, hg'⟩
        repeat
          refine Vc.Walk.pure (v := ?_) (fun _ => Gr.rfl' _) rfl (by first | exact Vc.GuardYes.no rfl | exact Vc.GuardYes.yes rfl rfl) rfl rfl ?_ ?_
          rotate_left
          · intro _ W hI
            (have y0 := hI.g.cell hcx.out.1; have y1 := hI.g.cell hcx.out.2; have y2 := hI.g.cell hcy.out.1; have y3 := hI.g.cell hcy.out.2; have y4 := hI.g.cell hcl.out; clear hI)
            go_simp
            exact rfl
        refine Vc.Walk.any (.is ?_) trivial (by first | exact .no rfl | exact .yes rfl rfl) ?_ ?_
        rotate_left
        · intro ρ k W hI hf
          obtain ⟨hρ0, ⟨A1, n1, c1, hρ1, hn1, hr1, _⟩, hρ2, _⟩ := hf
          have hg := hI.g
          have e0 : ρ (.func 15) = .func (.func 15) #[] #[] := hρ0
          have e1 : ρ (.tmp 46) = .agg #[.bool (fXY), .slice A1 n1 c1] := hρ1
          have e2 : ρ (.tmp 50) = encStr sj := hρ2
          clear hI hρ0 hρ1 hρ2
          go_simp
          refine (KB.out _ _ c1 _ hn1 hr1).mono ?_
          rintro e W' ⟨rfl, hg'⟩
          refine ⟨_, rfl, ?_, hg'⟩
          exact rfl
        repeat
          refine Vc.Walk.pure (v := ?_) (fun _ => Gr.rfl' _) rfl (by first | exact Vc.GuardYes.no rfl | exact Vc.GuardYes.yes rfl rfl) rfl rfl ?_ ?_
          rotate_left
          · intro _ W hI
            (have y0 := hI.g.cell hcx.out.1; have y1 := hI.g.cell hcx.out.2; have y2 := hI.g.cell hcy.out.1; have y3 := hI.g.cell hcy.out.2; have y4 := hI.g.cell hcl.out; clear hI)
            go_simp
            exact rfl
        (try refine Vc.Walk.skip (fun _ => Gr.rfl' _) rfl rfl rfl (by decide) ?_)
        repeat
          refine Vc.Walk.pure (v := ?_) (fun _ => Gr.rfl' _) rfl (by first | exact Vc.GuardYes.no rfl | exact Vc.GuardYes.yes rfl rfl) rfl rfl ?_ ?_
          rotate_left
          · intro _ W hI
            (have y0 := hI.g.cell hcx.out.1; have y1 := hI.g.cell hcx.out.2; have y2 := hI.g.cell hcy.out.1; have y3 := hI.g.cell hcy.out.2; have y4 := hI.g.cell hcl.out; clear hI)
            go_simp
            exact rfl
        refine Vc.Walk.any (.fits (Vc.All (NmV (eXY) (EXY)))) (st_gr (fun _ _ h => h) (fun _ _ _ h => h) NmV.gr) (by first | exact .no rfl | exact .yes rfl rfl) ?_ ?_
        · intro ρ k W hI hf
          obtain ⟨hρ0, hρ1, hρ2, _⟩ := hf
          have hg := hI.g
          have e0 : ρ (.func 20) = .func (.func 20) #[] #[] := hρ0
          have e1 : ρ (.tmp 58) = .agg #[.bool b0, .slice Ax nx cx] := hρ1
          have e2 : ρ (.tmp 59) = .agg #[.bool b1, .slice Ay ny cy] := hρ2
          clear hI hρ0 hρ1 hρ2
          go_simp
          refine (HEXY.out _ (hxd.gr hg) (hyd.gr hg)).mono ?_
          rintro e W' ⟨A', n', c', rfl, hn', hr', h1, h2, hg'⟩
          exact ⟨_, rfl, ⟨_, _, _, rfl, hn', hr', h1, h2⟩, hg'⟩
        repeat
          refine Vc.Walk.pure (v := ?_) (fun _ => Gr.rfl' _) rfl (by first | exact Vc.GuardYes.no rfl | exact Vc.GuardYes.yes rfl rfl) rfl rfl ?_ ?_
          rotate_left
          · intro _ W hI
            (have y0 := hI.g.cell hcx.out.1; have y1 := hI.g.cell hcx.out.2; have y2 := hI.g.cell hcy.out.1; have y3 := hI.g.cell hcy.out.2; have y4 := hI.g.cell hcl.out; clear hI)
            go_simp
            exact rfl
        refine Vc.Walk.any (.is ?_) trivial (by first | exact .no rfl | exact .yes rfl rfl) ?_ ?_
        rotate_left
        · intro ρ k W hI hf
          obtain ⟨hρ0, ⟨A1, n1, c1, hρ1, hn1, hr1, _⟩, hρ2, _⟩ := hf
          have hg := hI.g
          have e0 : ρ (.func 15) = .func (.func 15) #[] #[] := hρ0
          have e1 : ρ (.tmp 60) = .agg #[.bool (eXY), .slice A1 n1 c1] := hρ1
          have e2 : ρ (.tmp 64) = encStr sj := hρ2
          clear hI hρ0 hρ1 hρ2
          go_simp
          refine (KE.out _ _ c1 _ hn1 hr1).mono ?_
          rintro e W' ⟨rfl, hg'⟩
          refine ⟨_, rfl, ?_, hg'⟩
          exact rfl
        repeat
          refine Vc.Walk.pure (v := ?_) (fun _ => Gr.rfl' _) rfl (by first | exact Vc.GuardYes.no rfl | exact Vc.GuardYes.yes rfl rfl) rfl rfl ?_ ?_
          rotate_left
          · intro _ W hI
            (have y0 := hI.g.cell hcx.out.1; have y1 := hI.g.cell hcx.out.2; have y2 := hI.g.cell hcy.out.1; have y3 := hI.g.cell hcy.out.2; have y4 := hI.g.cell hcl.out; clear hI)
            go_simp
            exact rfl
        (try refine Vc.Walk.skip (fun _ => Gr.rfl' _) rfl rfl rfl (by decide) ?_)
        repeat
          refine Vc.Walk.pure (v := ?_) (fun _ => Gr.rfl' _) rfl (by first | exact Vc.GuardYes.no rfl | exact Vc.GuardYes.yes rfl rfl) rfl rfl ?_ ?_
          rotate_left
          · intro _ W hI
            (have y0 := hI.g.cell hcx.out.1; have y1 := hI.g.cell hcx.out.2; have y2 := hI.g.cell hcy.out.1; have y3 := hI.g.cell hcy.out.2; have y4 := hI.g.cell hcl.out; clear hI)
            go_simp
            exact rfl
        refine Vc.Walk.any (.fits (Vc.All (NmV (vX) (NX)))) (st_gr (fun _ _ h => h) (fun _ _ _ h => h) NmV.gr) (by first | exact .no rfl | exact .yes rfl rfl) ?_ ?_
        · intro ρ k W hI hf
          obtain ⟨hρ0, hρ1, _⟩ := hf
          have hg := hI.g
          have e0 : ρ (.func 16) = .func (.func 16) #[] #[] := hρ0
          have e1 : ρ (.tmp 73) = .agg #[.bool b0, .slice Ax nx cx] := hρ1
          clear hI hρ0 hρ1
          go_simp
          refine (HNX.out _ (hxd.gr hg)).mono ?_
          rintro e W' ⟨A', n', c', rfl, hn', hr', h1, h2, hg'⟩
          exact ⟨_, rfl, ⟨_, _, _, rfl, hn', hr', h1, h2⟩, hg'⟩
        repeat
          refine Vc.Walk.pure (v := ?_) (fun _ => Gr.rfl' _) rfl (by first | exact Vc.GuardYes.no rfl | exact Vc.GuardYes.yes rfl rfl) rfl rfl ?_ ?_
          rotate_left
          · intro _ W hI
            (have y0 := hI.g.cell hcx.out.1; have y1 := hI.g.cell hcx.out.2; have y2 := hI.g.cell hcy.out.1; have y3 := hI.g.cell hcy.out.2; have y4 := hI.g.cell hcl.out; clear hI)
            go_simp
            exact rfl
        refine Vc.Walk.any (.is ?_) trivial (by first | exact .no rfl | exact .yes rfl rfl) ?_ ?_
        rotate_left
        · intro ρ k W hI hf
          obtain ⟨hρ0, ⟨A1, n1, c1, hρ1, hn1, hr1, _⟩, hρ2, _⟩ := hf
          have hg := hI.g
          have e0 : ρ (.func 15) = .func (.func 15) #[] #[] := hρ0
          have e1 : ρ (.tmp 74) = .agg #[.bool (vX), .slice A1 n1 c1] := hρ1
          have e2 : ρ (.tmp 78) = encStr sj := hρ2
          clear hI hρ0 hρ1 hρ2
          go_simp
          refine (KN.out _ _ c1 _ hn1 hr1).mono ?_
          rintro e W' ⟨rfl, hg'⟩
          refine ⟨_, rfl, ?_, hg'⟩
          exact rfl
        repeat
          refine Vc.Walk.pure (v := ?_) (fun _ => Gr.rfl' _) rfl (by first | exact Vc.GuardYes.no rfl | exact Vc.GuardYes.yes rfl rfl) rfl rfl ?_ ?_
          rotate_left
          · intro _ W hI
            (have y0 := hI.g.cell hcx.out.1; have y1 := hI.g.cell hcx.out.2; have y2 := hI.g.cell hcy.out.1; have y3 := hI.g.cell hcy.out.2; have y4 := hI.g.cell hcl.out; clear hI)
            go_simp
            exact rfl
        intro W2 hW2
        have hW2 : Gr Wd W2 := hW2
        simp only [List.reverse_cons, List.reverse_nil, List.nil_append, List.cons_append, Vc.finish, Act.put, List.setIfInBounds_toArray, List.set_cons_zero, List.set_cons_succ]
        intro u46 _ u60 _ u74 _
        go_wp2_with fail
        go_roundw
        case rel => exact ⟨j + 1, by omega, by go_num, hW2⟩
        case measure => simp [intOf]; omega
    · obtain rfl : j = 7 := by omega
      go_wp2_with fail
      refine Vc.wp_region_facts ⟨Gr, fun _ => Gr, fun _ W => Gr Wd W, []⟩ (by kernel_rfl) (by kernel_rfl) (fun _ _ _ h h' => h'.trans' h) (hb.trans' (Gr.draw _)) ?_
      repeat
        refine Vc.Walk.pure (v := ?_) (fun _ => Gr.rfl' _) rfl (by first | exact Vc.GuardYes.no rfl | exact Vc.GuardYes.yes rfl rfl) rfl rfl ?_ ?_
        rotate_left
        · intro _ W hI
          (have y0 := hI.g.cell hcx.out.1; have y1 := hI.g.cell hcx.out.2; have y2 := hI.g.cell hcy.out.1; have y3 := hI.g.cell hcy.out.2; have y4 := hI.g.cell hcz.out.1; have y5 := hI.g.cell hcz.out.2; clear hI)
          go_simp
          exact rfl
      refine Vc.Walk.any (.fits (Vc.All (NmV (fXY) (LXY)))) (st_gr (fun _ _ h => h) (fun _ _ _ h => h) NmV.gr) (by first | exact .no rfl | exact .yes rfl rfl) ?_ ?_
      · intro ρ k W hI hf
        obtain ⟨hρ0, hρ1, hρ2, _⟩ := hf
        have hg := hI.g
        have e0 : ρ (.func 19) = .func (.func 19) #[] #[] := hρ0
        have e1 : ρ (.tmp 83) = .agg #[.bool b0, .slice Ax nx cx] := hρ1
        have e2 : ρ (.tmp 84) = .agg #[.bool b1, .slice Ay ny cy] := hρ2
        clear hI hρ0 hρ1 hρ2
        go_simp
        refine (HXY.out _ (hxd.gr hg) (hyd.gr hg)).mono ?_
        rintro e W' ⟨A', n', c', rfl, hn', hr', h1, h2, hg'⟩
        exact ⟨_, rfl, ⟨_, _, _, rfl, hn', hr', h1, h2⟩, hg'⟩
      refine Vc.Walk.any (.fits (Vc.All (NmV (f1) (M1)))) (st_gr (fun _ _ h => h) (fun _ _ _ h => h) NmV.gr) (by first | exact .no rfl | exact .yes rfl rfl) ?_ ?_
      · intro ρ k W hI hf
        obtain ⟨hρ0, ⟨A1, n1, c1, hρ1, hn1, hr1, _⟩, _⟩ := hf
        have hg := hI.g
        have e0 : ρ (.func 16) = .func (.func 16) #[] #[] := hρ0
        have e1 : ρ (.tmp 85) = .agg #[.bool (fXY), .slice A1 n1 c1] := hρ1
        clear hI hρ0 hρ1
        go_simp
        refine (HNXY.out _ _ c1 _ hn1 hr1).mono ?_
        rintro e W' ⟨A', n', c', rfl, hn', hr', h1, h2, hg'⟩
        exact ⟨_, rfl, ⟨_, _, _, rfl, hn', hr', h1, h2⟩, hg'⟩
      repeat
        refine Vc.Walk.pure (v := ?_) (fun _ => Gr.rfl' _) rfl (by first | exact Vc.GuardYes.no rfl | exact Vc.GuardYes.yes rfl rfl) rfl rfl ?_ ?_
        rotate_left
        · intro _ W hI
          (have y0 := hI.g.cell hcx.out.1; have y1 := hI.g.cell hcx.out.2; have y2 := hI.g.cell hcy.out.1; have y3 := hI.g.cell hcy.out.2; have y4 := hI.g.cell hcz.out.1; have y5 := hI.g.cell hcz.out.2; clear hI)
          go_simp
          exact rfl
      refine Vc.Walk.any (.fits (Vc.All (NmV (vX) (NX)))) (st_gr (fun _ _ h => h) (fun _ _ _ h => h) NmV.gr) (by first | exact .no rfl | exact .yes rfl rfl) ?_ ?_
      · intro ρ k W hI hf
        obtain ⟨hρ0, hρ1, _⟩ := hf
        have hg := hI.g
        have e0 : ρ (.func 16) = .func (.func 16) #[] #[] := hρ0
        have e1 : ρ (.tmp 87) = .agg #[.bool b0, .slice Ax nx cx] := hρ1
        clear hI hρ0 hρ1
        go_simp
        refine (HNX.out _ (hxd.gr hg)).mono ?_
        rintro e W' ⟨A', n', c', rfl, hn', hr', h1, h2, hg'⟩
        exact ⟨_, rfl, ⟨_, _, _, rfl, hn', hr', h1, h2⟩, hg'⟩
      repeat
        refine Vc.Walk.pure (v := ?_) (fun _ => Gr.rfl' _) rfl (by first | exact Vc.GuardYes.no rfl | exact Vc.GuardYes.yes rfl rfl) rfl rfl ?_ ?_
        rotate_left
        · intro _ W hI
          (have y0 := hI.g.cell hcx.out.1; have y1 := hI.g.cell hcx.out.2; have y2 := hI.g.cell hcy.out.1; have y3 := hI.g.cell hcy.out.2; have y4 := hI.g.cell hcz.out.1; have y5 := hI.g.cell hcz.out.2; clear hI)
          go_simp
          exact rfl
      refine Vc.Walk.any (.fits (Vc.All (NmV (vY) (NY)))) (st_gr (fun _ _ h => h) (fun _ _ _ h => h) NmV.gr) (by first | exact .no rfl | exact .yes rfl rfl) ?_ ?_
      · intro ρ k W hI hf
        obtain ⟨hρ0, hρ1, _⟩ := hf
        have hg := hI.g
        have e0 : ρ (.func 16) = .func (.func 16) #[] #[] := hρ0
        have e1 : ρ (.tmp 89) = .agg #[.bool b1, .slice Ay ny cy] := hρ1
        clear hI hρ0 hρ1
        go_simp
        refine (HNY.out _ (hyd.gr hg)).mono ?_
        rintro e W' ⟨A', n', c', rfl, hn', hr', h1, h2, hg'⟩
        exact ⟨_, rfl, ⟨_, _, _, rfl, hn', hr', h1, h2⟩, hg'⟩
      refine Vc.Walk.any (.fits (Vc.All (NmV (f2) (M2)))) (st_gr (fun _ _ h => h) (fun _ _ _ h => h) NmV.gr) (by first | exact .no rfl | exact .yes rfl rfl) ?_ ?_
      · intro ρ k W hI hf
        obtain ⟨hρ0, ⟨A1, n1, c1, hρ1, hn1, hr1, _⟩, ⟨A2, n2, c2, hρ2, hn2, hr2, _⟩, _⟩ := hf
        have hg := hI.g
        have e0 : ρ (.func 20) = .func (.func 20) #[] #[] := hρ0
        have e1 : ρ (.tmp 88) = .agg #[.bool (vX), .slice A1 n1 c1] := hρ1
        have e2 : ρ (.tmp 90) = .agg #[.bool (vY), .slice A2 n2 c2] := hρ2
        clear hI hρ0 hρ1 hρ2
        go_simp
        refine (HENN.out _ _ c1 _ _ c2 _ hn1 hr1 hn2 hr2).mono ?_
        rintro e W' ⟨A', n', c', rfl, hn', hr', h1, h2, hg'⟩
        exact ⟨_, rfl, ⟨_, _, _, rfl, hn', hr', h1, h2⟩, hg'⟩
      refine Vc.Walk.any (.is (.bool true)) trivial (by first | exact .no rfl | exact .yes rfl rfl) ?_ ?_
      · intro ρ k W hI hf
        obtain ⟨hρ0, ⟨A1, n1, c1, hρ1, hn1, hr1, _⟩, ⟨A2, n2, c2, hρ2, hn2, hr2, _⟩, _⟩ := hf
        have hg := hI.g
        have e0 : ρ (.func 21) = .func (.func 21) #[] #[] := hρ0
        have e1 : ρ (.tmp 86) = .agg #[.bool (f1), .slice A1 n1 c1] := hρ1
        have e2 : ρ (.tmp 91) = .agg #[.bool (f2), .slice A2 n2 c2] := hρ2
        clear hI hρ0 hρ1 hρ2
        go_simp
        refine (HS1.out _ _ c1 _ _ c2 _ hn1 hr1 hn2 hr2).mono ?_
        rintro e W' ⟨rfl, hg'⟩
        exact ⟨_, rfl, rfl, hg'⟩
      repeat
        refine Vc.Walk.pure (v := ?_) (fun _ => Gr.rfl' _) rfl (by first | exact Vc.GuardYes.no rfl | exact Vc.GuardYes.yes rfl rfl) rfl rfl ?_ ?_
        rotate_left
        · intro _ W hI
          (have y0 := hI.g.cell hcx.out.1; have y1 := hI.g.cell hcx.out.2; have y2 := hI.g.cell hcy.out.1; have y3 := hI.g.cell hcy.out.2; have y4 := hI.g.cell hcz.out.1; have y5 := hI.g.cell hcz.out.2; clear hI)
          go_simp
          exact rfl
      refine Vc.Walk.any (.fits (Vc.All (NmV (eYZ) (EYZ)))) (st_gr (fun _ _ h => h) (fun _ _ _ h => h) NmV.gr) (by first | exact .no rfl | exact .yes rfl rfl) ?_ ?_
      · intro ρ k W hI hf
        obtain ⟨hρ0, hρ1, hρ2, _⟩ := hf
        have hg := hI.g
        have e0 : ρ (.func 20) = .func (.func 20) #[] #[] := hρ0
        have e1 : ρ (.tmp 95) = .agg #[.bool b1, .slice Ay ny cy] := hρ1
        have e2 : ρ (.tmp 96) = .agg #[.bool b2, .slice Az nz cz] := hρ2
        clear hI hρ0 hρ1 hρ2
        go_simp
        refine (HEYZ.out _ (hyd.gr hg) (hzd.gr hg)).mono ?_
        rintro e W' ⟨A', n', c', rfl, hn', hr', h1, h2, hg'⟩
        exact ⟨_, rfl, ⟨_, _, _, rfl, hn', hr', h1, h2⟩, hg'⟩
      refine Vc.Walk.any (.fits (Vc.All (NmV (f4) (M4)))) (st_gr (fun _ _ h => h) (fun _ _ _ h => h) NmV.gr) (by first | exact .no rfl | exact .yes rfl rfl) ?_ ?_
      · intro ρ k W hI hf
        obtain ⟨hρ0, hρ1, ⟨A2, n2, c2, hρ2, hn2, hr2, _⟩, _⟩ := hf
        have hg := hI.g
        have e0 : ρ (.func 19) = .func (.func 19) #[] #[] := hρ0
        have e1 : ρ (.tmp 94) = .agg #[.bool b0, .slice Ax nx cx] := hρ1
        have e2 : ρ (.tmp 97) = .agg #[.bool (eYZ), .slice A2 n2 c2] := hρ2
        clear hI hρ0 hρ1 hρ2
        go_simp
        refine (HB4.out _ _ c2 _ (hxd.gr hg) hn2 hr2).mono ?_
        rintro e W' ⟨A', n', c', rfl, hn', hr', h1, h2, hg'⟩
        exact ⟨_, rfl, ⟨_, _, _, rfl, hn', hr', h1, h2⟩, hg'⟩
      repeat
        refine Vc.Walk.pure (v := ?_) (fun _ => Gr.rfl' _) rfl (by first | exact Vc.GuardYes.no rfl | exact Vc.GuardYes.yes rfl rfl) rfl rfl ?_ ?_
        rotate_left
        · intro _ W hI
          (have y0 := hI.g.cell hcx.out.1; have y1 := hI.g.cell hcx.out.2; have y2 := hI.g.cell hcy.out.1; have y3 := hI.g.cell hcy.out.2; have y4 := hI.g.cell hcz.out.1; have y5 := hI.g.cell hcz.out.2; clear hI)
          go_simp
          exact rfl
      refine Vc.Walk.any (.fits (Vc.All (NmV (fXY) (LXY)))) (st_gr (fun _ _ h => h) (fun _ _ _ h => h) NmV.gr) (by first | exact .no rfl | exact .yes rfl rfl) ?_ ?_
      · intro ρ k W hI hf
        obtain ⟨hρ0, hρ1, hρ2, _⟩ := hf
        have hg := hI.g
        have e0 : ρ (.func 19) = .func (.func 19) #[] #[] := hρ0
        have e1 : ρ (.tmp 99) = .agg #[.bool b0, .slice Ax nx cx] := hρ1
        have e2 : ρ (.tmp 100) = .agg #[.bool b1, .slice Ay ny cy] := hρ2
        clear hI hρ0 hρ1 hρ2
        go_simp
        refine (HXY.out _ (hxd.gr hg) (hyd.gr hg)).mono ?_
        rintro e W' ⟨A', n', c', rfl, hn', hr', h1, h2, hg'⟩
        exact ⟨_, rfl, ⟨_, _, _, rfl, hn', hr', h1, h2⟩, hg'⟩
      repeat
        refine Vc.Walk.pure (v := ?_) (fun _ => Gr.rfl' _) rfl (by first | exact Vc.GuardYes.no rfl | exact Vc.GuardYes.yes rfl rfl) rfl rfl ?_ ?_
        rotate_left
        · intro _ W hI
          (have y0 := hI.g.cell hcx.out.1; have y1 := hI.g.cell hcx.out.2; have y2 := hI.g.cell hcy.out.1; have y3 := hI.g.cell hcy.out.2; have y4 := hI.g.cell hcz.out.1; have y5 := hI.g.cell hcz.out.2; clear hI)
          go_simp
          exact rfl
      refine Vc.Walk.any (.fits (Vc.All (NmV (fXZ) (LXZ)))) (st_gr (fun _ _ h => h) (fun _ _ _ h => h) NmV.gr) (by first | exact .no rfl | exact .yes rfl rfl) ?_ ?_
      · intro ρ k W hI hf
        obtain ⟨hρ0, hρ1, hρ2, _⟩ := hf
        have hg := hI.g
        have e0 : ρ (.func 19) = .func (.func 19) #[] #[] := hρ0
        have e1 : ρ (.tmp 102) = .agg #[.bool b0, .slice Ax nx cx] := hρ1
        have e2 : ρ (.tmp 103) = .agg #[.bool b2, .slice Az nz cz] := hρ2
        clear hI hρ0 hρ1 hρ2
        go_simp
        refine (HXZ.out _ (hxd.gr hg) (hzd.gr hg)).mono ?_
        rintro e W' ⟨A', n', c', rfl, hn', hr', h1, h2, hg'⟩
        exact ⟨_, rfl, ⟨_, _, _, rfl, hn', hr', h1, h2⟩, hg'⟩
      refine Vc.Walk.any (.fits (Vc.All (NmV (f5) (M5)))) (st_gr (fun _ _ h => h) (fun _ _ _ h => h) NmV.gr) (by first | exact .no rfl | exact .yes rfl rfl) ?_ ?_
      · intro ρ k W hI hf
        obtain ⟨hρ0, ⟨A1, n1, c1, hρ1, hn1, hr1, _⟩, ⟨A2, n2, c2, hρ2, hn2, hr2, _⟩, _⟩ := hf
        have hg := hI.g
        have e0 : ρ (.func 20) = .func (.func 20) #[] #[] := hρ0
        have e1 : ρ (.tmp 101) = .agg #[.bool (fXY), .slice A1 n1 c1] := hρ1
        have e2 : ρ (.tmp 104) = .agg #[.bool (fXZ), .slice A2 n2 c2] := hρ2
        clear hI hρ0 hρ1 hρ2
        go_simp
        refine (HE5.out _ _ c1 _ _ c2 _ hn1 hr1 hn2 hr2).mono ?_
        rintro e W' ⟨A', n', c', rfl, hn', hr', h1, h2, hg'⟩
        exact ⟨_, rfl, ⟨_, _, _, rfl, hn', hr', h1, h2⟩, hg'⟩
      refine Vc.Walk.any (.is (.bool true)) trivial (by first | exact .no rfl | exact .yes rfl rfl) ?_ ?_
      · intro ρ k W hI hf
        obtain ⟨hρ0, ⟨A1, n1, c1, hρ1, hn1, hr1, _⟩, ⟨A2, n2, c2, hρ2, hn2, hr2, _⟩, _⟩ := hf
        have hg := hI.g
        have e0 : ρ (.func 21) = .func (.func 21) #[] #[] := hρ0
        have e1 : ρ (.tmp 98) = .agg #[.bool (f4), .slice A1 n1 c1] := hρ1
        have e2 : ρ (.tmp 105) = .agg #[.bool (f5), .slice A2 n2 c2] := hρ2
        clear hI hρ0 hρ1 hρ2
        go_simp
        refine (HS2.out _ _ c1 _ _ c2 _ hn1 hr1 hn2 hr2).mono ?_
        rintro e W' ⟨rfl, hg'⟩
        exact ⟨_, rfl, rfl, hg'⟩
      repeat
        refine Vc.Walk.pure (v := ?_) (fun _ => Gr.rfl' _) rfl (by first | exact Vc.GuardYes.no rfl | exact Vc.GuardYes.yes rfl rfl) rfl rfl ?_ ?_
        rotate_left
        · intro _ W hI
          (have y0 := hI.g.cell hcx.out.1; have y1 := hI.g.cell hcx.out.2; have y2 := hI.g.cell hcy.out.1; have y3 := hI.g.cell hcy.out.2; have y4 := hI.g.cell hcz.out.1; have y5 := hI.g.cell hcz.out.2; clear hI)
          go_simp
          exact rfl
      refine Vc.Walk.any (.fits (Vc.All (NmV (vX) (NX)))) (st_gr (fun _ _ h => h) (fun _ _ _ h => h) NmV.gr) (by first | exact .no rfl | exact .yes rfl rfl) ?_ ?_
      · intro ρ k W hI hf
        obtain ⟨hρ0, hρ1, _⟩ := hf
        have hg := hI.g
        have e0 : ρ (.func 16) = .func (.func 16) #[] #[] := hρ0
        have e1 : ρ (.tmp 109) = .agg #[.bool b0, .slice Ax nx cx] := hρ1
        clear hI hρ0 hρ1
        go_simp
        refine (HNX.out _ (hxd.gr hg)).mono ?_
        rintro e W' ⟨A', n', c', rfl, hn', hr', h1, h2, hg'⟩
        exact ⟨_, rfl, ⟨_, _, _, rfl, hn', hr', h1, h2⟩, hg'⟩
      refine Vc.Walk.any (.fits (Vc.All (NmV (f6) (M6)))) (st_gr (fun _ _ h => h) (fun _ _ _ h => h) NmV.gr) (by first | exact .no rfl | exact .yes rfl rfl) ?_ ?_
      · intro ρ k W hI hf
        obtain ⟨hρ0, ⟨A1, n1, c1, hρ1, hn1, hr1, _⟩, _⟩ := hf
        have hg := hI.g
        have e0 : ρ (.func 16) = .func (.func 16) #[] #[] := hρ0
        have e1 : ρ (.tmp 110) = .agg #[.bool (vX), .slice A1 n1 c1] := hρ1
        clear hI hρ0 hρ1
        go_simp
        refine (HNN.out _ _ c1 _ hn1 hr1).mono ?_
        rintro e W' ⟨A', n', c', rfl, hn', hr', h1, h2, hg'⟩
        exact ⟨_, rfl, ⟨_, _, _, rfl, hn', hr', h1, h2⟩, hg'⟩
      repeat
        refine Vc.Walk.pure (v := ?_) (fun _ => Gr.rfl' _) rfl (by first | exact Vc.GuardYes.no rfl | exact Vc.GuardYes.yes rfl rfl) rfl rfl ?_ ?_
        rotate_left
        · intro _ W hI
          (have y0 := hI.g.cell hcx.out.1; have y1 := hI.g.cell hcx.out.2; have y2 := hI.g.cell hcy.out.1; have y3 := hI.g.cell hcy.out.2; have y4 := hI.g.cell hcz.out.1; have y5 := hI.g.cell hcz.out.2; clear hI)
          go_simp
          exact rfl
      refine Vc.Walk.any (.is (.bool true)) trivial (by first | exact .no rfl | exact .yes rfl rfl) ?_ ?_
      · intro ρ k W hI hf
        obtain ⟨hρ0, ⟨A1, n1, c1, hρ1, hn1, hr1, _⟩, hρ2, _⟩ := hf
        have hg := hI.g
        have e0 : ρ (.func 21) = .func (.func 21) #[] #[] := hρ0
        have e1 : ρ (.tmp 111) = .agg #[.bool (f6), .slice A1 n1 c1] := hρ1
        have e2 : ρ (.tmp 112) = .agg #[.bool b0, .slice Ax nx cx] := hρ2
        clear hI hρ0 hρ1 hρ2
        go_simp
        refine (HS3.out _ _ c1 _ hn1 hr1 (hxd.gr hg)).mono ?_
        rintro e W' ⟨rfl, hg'⟩
        exact ⟨_, rfl, rfl, hg'⟩
      repeat
        refine Vc.Walk.pure (v := ?_) (fun _ => Gr.rfl' _) rfl (by first | exact Vc.GuardYes.no rfl | exact Vc.GuardYes.yes rfl rfl) rfl rfl ?_ ?_
        rotate_left
        · intro _ W hI
          (have y0 := hI.g.cell hcx.out.1; have y1 := hI.g.cell hcx.out.2; have y2 := hI.g.cell hcy.out.1; have y3 := hI.g.cell hcy.out.2; have y4 := hI.g.cell hcz.out.1; have y5 := hI.g.cell hcz.out.2; clear hI)
          go_simp
          exact rfl
      refine Vc.Walk.any (.fits (Vc.All (NmV (vX) (NX)))) (st_gr (fun _ _ h => h) (fun _ _ _ h => h) NmV.gr) (by first | exact .no rfl | exact .yes rfl rfl) ?_ ?_
      · intro ρ k W hI hf
        obtain ⟨hρ0, hρ1, _⟩ := hf
        have hg := hI.g
        have e0 : ρ (.func 16) = .func (.func 16) #[] #[] := hρ0
        have e1 : ρ (.tmp 117) = .agg #[.bool b0, .slice Ax nx cx] := hρ1
        clear hI hρ0 hρ1
        go_simp
        refine (HNX.out _ (hxd.gr hg)).mono ?_
        rintro e W' ⟨A', n', c', rfl, hn', hr', h1, h2, hg'⟩
        exact ⟨_, rfl, ⟨_, _, _, rfl, hn', hr', h1, h2⟩, hg'⟩
      refine Vc.Walk.any (.fits (Vc.All (NmV (f7) (M7)))) (st_gr (fun _ _ h => h) (fun _ _ _ h => h) NmV.gr) (by first | exact .no rfl | exact .yes rfl rfl) ?_ ?_
      · intro ρ k W hI hf
        obtain ⟨hρ0, hρ1, ⟨A2, n2, c2, hρ2, hn2, hr2, _⟩, _⟩ := hf
        have hg := hI.g
        have e0 : ρ (.func 19) = .func (.func 19) #[] #[] := hρ0
        have e1 : ρ (.tmp 116) = .agg #[.bool b0, .slice Ax nx cx] := hρ1
        have e2 : ρ (.tmp 118) = .agg #[.bool (vX), .slice A2 n2 c2] := hρ2
        clear hI hρ0 hρ1 hρ2
        go_simp
        refine (HB7.out _ _ c2 _ (hxd.gr hg) hn2 hr2).mono ?_
        rintro e W' ⟨A', n', c', rfl, hn', hr', h1, h2, hg'⟩
        exact ⟨_, rfl, ⟨_, _, _, rfl, hn', hr', h1, h2⟩, hg'⟩
      refine Vc.Walk.any (.is (.bool true)) trivial (by first | exact .no rfl | exact .yes rfl rfl) ?_ ?_
      · intro ρ k W hI hf
        obtain ⟨hρ0, ⟨A1, n1, c1, hρ1, hn1, hr1, _⟩, _⟩ := hf
        have hg := hI.g
        have e0 : ρ (.func 23) = .func (.func 23) #[] #[] := hρ0
        have e1 : ρ (.tmp 119) = .agg #[.bool (f7), .slice A1 n1 c1] := hρ1
        clear hI hρ0 hρ1
        go_simp
        refine (HK7.out _ _ c1 _ hn1).mono ?_
        rintro e W' ⟨rfl, hg'⟩
        exact ⟨_, rfl, rfl, hg'⟩
      repeat
        refine Vc.Walk.pure (v := ?_) (fun _ => Gr.rfl' _) rfl (by first | exact Vc.GuardYes.no rfl | exact Vc.GuardYes.yes rfl rfl) rfl rfl ?_ ?_
        rotate_left
        · intro _ W hI
          (have y0 := hI.g.cell hcx.out.1; have y1 := hI.g.cell hcx.out.2; have y2 := hI.g.cell hcy.out.1; have y3 := hI.g.cell hcy.out.2; have y4 := hI.g.cell hcz.out.1; have y5 := hI.g.cell hcz.out.2; clear hI)
          go_simp
          exact rfl
      intro W hW
      have hW : Gr Wd W := hW
      simp only [List.reverse_cons, List.reverse_nil, List.nil_append, List.cons_append, Vc.finish, Act.put, List.setIfInBounds_toArray, List.set_cons_zero, List.set_cons_succ]
      intro u85 _ u86 _ u88 _ u90 _ u91 _ u97 _ u98 _ u101 _ u104 _ u105 _ u110 _ u111 _ u118 _ u119 _
      go_wp2_with fail
      go_ret
      exact ⟨rfl, hGd.trans' hW⟩
end Go.Proofs.Ytbjkfllghkcgcaa.namesAlgebra
