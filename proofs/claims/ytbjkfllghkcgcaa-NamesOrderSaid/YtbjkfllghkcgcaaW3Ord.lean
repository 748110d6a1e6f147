/- The walk of NamesOrder. -/
import Derived.Test.YtbjkfllghkcgcaaNmM
import Derived.Test.YtbjkfllghkcgcaaNmX
set_option linter.unusedVariables false
set_option linter.unusedSimpArgs false
namespace Go.Proofs.Ytbjkfllghkcgcaa.namesOrder
open Go.RowKit Go.Sort

attribute [local go_sem] Vc.known_tmp Vc.known_const Vc.known_func Vc.known_global Vc.lk Vc.okUpon Vc.Fact.holds

theorem makes_names {o : Oper} (hg : o.guard = none) (ho : o.op = .alloc 25) : Vc.Makes Try.prog o := by
  refine ⟨hg, fun ρ w n w' h => ?_⟩
  obtain ⟨d, op, ty, pos, af, gd⟩ := o
  simp only at ho
  subst ho
  simp [execOp, go_sem] at h
  obtain ⟨rfl, rfl⟩ := h
  exact ⟨rfl, (Row.new w _ _).lt⟩

/-- The list that is written twice, turned. -/
def turn (X : List Str) (m k : Nat) : List Str := (List.range k).map fun i => X.getD ((i + m) % X.length) []
theorem turn_snoc (X : List Str) (m k : Nat) : turn X m (k + 1) = turn X m k ++ [X.getD ((k + m) % X.length) []] := by
  simp [turn, List.range_succ]
theorem turn_length (X : List Str) (m k : Nat) : (turn X m k).length = k := by simp [turn]
theorem turn_mem (X : List Str) (m : Nat) (s : Str) : s ∈ turn X m (2 * X.length) ↔ s ∈ X := by
  unfold turn
  simp only [List.mem_map, List.mem_range]
  constructor
  · rintro ⟨i, hi, rfl⟩
    have h0 : 0 < X.length := by omega
    have h1 : (i + m) % X.length < X.length := Nat.mod_lt _ h0
    simp only [List.getD_eq_getElem?_getD, List.getElem?_eq_getElem h1, Option.getD_some]
    exact List.getElem_mem h1
  · intro h
    obtain ⟨j, hj, rfl⟩ := List.getElem_of_mem h
    have hm : m % X.length < X.length := Nat.mod_lt _ (by omega)
    refine ⟨j + X.length - m % X.length, by omega, ?_⟩
    have e : (j + X.length - m % X.length + m) % X.length = j := by
      have h1 := Nat.mod_add_div m X.length
      have : j + X.length - m % X.length + m = j + X.length * (m / X.length + 1) := by
        rw [Nat.mul_add, Nat.mul_one]
        omega
      rw [this, Nat.add_mul_mod_self_left, Nat.mod_eq_of_lt hj]
    rw [e]
    simp [List.getD_eq_getElem?_getD, hj]

theorem code_at {P : Program} {c : Code} {Q : Exit → Act → World → Prop} {a : Act} {w w' : World} (h : w' = w) (H : c.wp P Q a w') : c.wp P Q a w := h ▸ H
theorem both_congr (b0 b1 : Bool) {X T : List Str} (Y : List Str) (h : ofL T = ofL X) : bothL b0 b1 T Y = bothL b0 b1 X Y := by
  cases b0 <;> cases b1 <;> simp only [bothL, h]
theorem both_sorted (b0 b1 : Bool) (X Y : List Str) : (bothL b0 b1 X Y).Pairwise (· < ·) := by
  cases b0 <;> cases b1 <;> exact ofL_sorted _

set_option maxRecDepth 20000 in
set_option maxHeartbeats 8000000 in
theorem walk (w : World) (b0 : Bool) (A0 : Option Addr) (n0 c0 : Nat) (L0 : List Str) (hn0 : Hid (L0.length = n0)) (hr0 : Rd w A0 (L0.map encStr)) (hs0 : ∀ s ∈ L0, s.length ≤ maxLen) (hl0 : n0 ≤ maxLen)
    (b1 : Bool) (A1 : Option Addr) (n1 c1 : Nat) (L1 : List Str) (hn1 : Hid (L1.length = n1)) (hr1 : Rd w A1 (L1.map encStr)) (hs1 : ∀ s ∈ L1, s.length ≤ maxLen) (hl1 : n1 ≤ maxLen)
    (by_ : Int) (hy : -9223372036854775808 ≤ by_) (hy' : by_ ≤ 9223372036854775807) :
    Calls Try.prog 4 #[.agg #[.bool b0, .slice A0 n0 c0], .agg #[.bool b1, .slice A1 n1 c1], .int .i64 by_] w fun e w' => e = .returned (.bool true) ∧ Below w.heap.size w w' := by
  have HF0 := Lib.hid (fun W => few_any b0 A0 n0 c0 W)
  have HF1 := Lib.hid (fun W => few_any b1 A1 n1 c1 W)
  obtain ⟨hb0, hb1, hg0⟩ := new2 w 25 25 [.bool b0, .slice A0 n0 c0] [.bool b1, .slice A1 n1 c1]
  by_cases hF0 : n0 ≤ 25
  case neg =>
    rw [decide_eq_false hF0] at HF0
    go_enter Try.func4, Try.ntmps4
    go_wp2_with (first
      | (go_at_call 8; refine (known3_any _).mono ?_; rintro e w1 ⟨rfl, hg1⟩
         have hc0 : w1.cell? ⟨w.heap.size, 0, none⟩ = some (.bool b0) := (hb0.gr hg1).cell 0
         have hc1 : w1.cell? ⟨w.heap.size, 1, none⟩ = some (.slice A0 n0 c0) := (hb0.gr hg1).cell 1)
      | (go_at_call 10; (with_reducible refine (HF0.out _).mono ?_); rintro e w2 ⟨rfl, hg2⟩))
    go_ret
    exact ⟨rfl, (hg0.trans' hg1).trans' hg2⟩
  rw [decide_eq_true hF0] at HF0
  by_cases hF1 : n1 ≤ 25
  case neg =>
    rw [decide_eq_false hF1] at HF1
    go_enter Try.func4, Try.ntmps4
    go_wp2_with (first
      | (go_at_call 8; refine (known3_any _).mono ?_; rintro e w1 ⟨rfl, hg1⟩
         have hc0 : w1.cell? ⟨w.heap.size, 0, none⟩ = some (.bool b0) := (hb0.gr hg1).cell 0
         have hc1 : w1.cell? ⟨w.heap.size, 1, none⟩ = some (.slice A0 n0 c0) := (hb0.gr hg1).cell 1)
      | (go_at_call 10; (with_reducible refine (HF0.out _).mono ?_); rintro e w2 ⟨rfl, hg2⟩
         have hc2 : w2.cell? ⟨w.heap.size + 1, 0, none⟩ = some (.bool b1) := ((hb1.gr hg1).gr hg2).cell 0
         have hc3 : w2.cell? ⟨w.heap.size + 1, 1, none⟩ = some (.slice A1 n1 c1) := ((hb1.gr hg1).gr hg2).cell 1)
      | (go_at_call 10; (with_reducible refine (HF1.out _).mono ?_); rintro e w3 ⟨rfl, hg3⟩))
    go_ret
    exact ⟨rfl, ((hg0.trans' hg1).trans' hg2).trans' hg3⟩
  rw [decide_eq_true hF1] at HF1
  have HM0 := Lib.hid (fun W h => make_any b0 A0 n0 c0 L0 W hn0 h hl0 hs0)
  have HM1 := Lib.hid (fun W h => make_any b1 A1 n1 c1 L1 W hn1 h hl1 hs1)
  have hX6 := mkL_length L0
  have hY6 := mkL_length L1
  generalize mkL L0 = X at *
  generalize mkL L1 = Y at *
  go_enter Try.func4, Try.ntmps4
  go_wp2_with (first
    | (go_at_call 8; refine (known3_any _).mono ?_; rintro e w1 ⟨rfl, hg1⟩
       have hc0 : w1.cell? ⟨w.heap.size, 0, none⟩ = some (.bool b0) := (hb0.gr hg1).cell 0
       have hc1 : w1.cell? ⟨w.heap.size, 1, none⟩ = some (.slice A0 n0 c0) := (hb0.gr hg1).cell 1)
    | (go_at_call 10; (with_reducible refine (HF0.out _).mono ?_); rintro e w2 ⟨rfl, hg2⟩
       have hc2 : w2.cell? ⟨w.heap.size + 1, 0, none⟩ = some (.bool b1) := ((hb1.gr hg1).gr hg2).cell 0
       have hc3 : w2.cell? ⟨w.heap.size + 1, 1, none⟩ = some (.slice A1 n1 c1) := ((hb1.gr hg1).gr hg2).cell 1
       clear hc0 hc1)
    | (go_at_call 10; (with_reducible refine (HF1.out _).mono ?_); rintro e w3 ⟨rfl, hg3⟩; clear hc2 hc3))
  have hG13 := (hg1.trans' hg2).trans' hg3
  have hb0 := hb0.gr hG13
  have hb1 := hb1.gr hG13
  have hG3 := hg0.trans' hG13
  clear hg0 hg1 hg2 hg3 hG13 HF0 HF1
  have hc0 := Lib.hid (show w3.cell? ⟨w.heap.size, 0, none⟩ = some (.bool b0) ∧ w3.cell? ⟨w.heap.size, 1, none⟩ = some (.slice A0 n0 c0) from ⟨hb0.cell 0, hb0.cell 1⟩)
  have hc1 := Lib.hid (show w3.cell? ⟨w.heap.size + 1, 0, none⟩ = some (.bool b1) ∧ w3.cell? ⟨w.heap.size + 1, 1, none⟩ = some (.slice A1 n1 c1) from ⟨hb1.cell 0, hb1.cell 1⟩)
  have hd0 := hr0.gr hG3
  have hd1 := hr1.gr hG3
  refine Vc.wp_region_split ⟨Gr, fun _ => Gr, fun _ W => Gr w3 W, []⟩ 6 [4, 5] (by kernel_rfl) (by kernel_rfl) (by kernel_rfl) (by decide) (by simp) ?_ (by simp) (fun _ _ h => h.size) (fun _ _ _ h => h.size) (fun _ _ _ h h' => h'.trans' h) (Gr.draw _) ?_
  · intro i hi
    simp only [List.mem_cons, List.not_mem_nil, or_false] at hi
    rcases hi with rfl | rfl
    · exact ⟨_, rfl, makes_names rfl rfl⟩
    · exact ⟨_, rfl, makes_names rfl rfl⟩
  repeat
    refine Vc.Walk.pure (v := ?_) (fun _ => Gr.rfl' _) rfl (by first | exact Vc.GuardYes.no rfl | exact Vc.GuardYes.yes rfl rfl) rfl rfl ?_ ?_
    rotate_left
    · intro _ W hI
      (have y0 := hI.g.cell hc0.out.1; have y1 := hI.g.cell hc0.out.2; clear hI)
      go_simp
      exact rfl
  refine Vc.Walk.any (.fits (Vc.All (NmV (b0) (X)))) (st_gr (fun _ _ h => h) (fun _ _ _ h => h) NmV.gr) (by first | exact .no rfl | exact .yes rfl rfl) ?_ ?_
  · intro ρ k W hI hf
    obtain ⟨hρ0, hρ1, _⟩ := hf
    have hg := hI.g
    have e0 : ρ (.func 17) = .func (.func 17) #[] #[] := hρ0
    have e1 : ρ (.tmp 24) = .agg #[.bool b0, .slice A0 n0 c0] := hρ1
    clear hI hρ0 hρ1
    go_simp
    refine (HM0.out _ (hd0.gr hg)).mono ?_
    rintro e W' ⟨A', n', c', rfl, hn', hr', h1, h2, hg'⟩
    exact ⟨_, rfl, ⟨_, _, _, rfl, hn', hr', h1, h2⟩, hg'⟩
  repeat
    refine Vc.Walk.pure (v := ?_) (fun _ => Gr.rfl' _) rfl (by first | exact Vc.GuardYes.no rfl | exact Vc.GuardYes.yes rfl rfl) rfl rfl ?_ ?_
    rotate_left
    · intro _ W hI
      (have y0 := hI.g.cell hc1.out.1; have y1 := hI.g.cell hc1.out.2; clear hI)
      go_simp
      exact rfl
  refine Vc.Walk.any (.fits (Vc.All (NmV (b1) (Y)))) (st_gr (fun _ _ h => h) (fun _ _ _ h => h) NmV.gr) (by first | exact .no rfl | exact .yes rfl rfl) ?_ ?_
  · intro ρ k W hI hf
    obtain ⟨hρ0, hρ1, _⟩ := hf
    have hg := hI.g
    have e0 : ρ (.func 17) = .func (.func 17) #[] #[] := hρ0
    have e1 : ρ (.tmp 26) = .agg #[.bool b1, .slice A1 n1 c1] := hρ1
    clear hI hρ0 hρ1
    go_simp
    refine (HM1.out _ (hd1.gr hg)).mono ?_
    rintro e W' ⟨A', n', c', rfl, hn', hr', h1, h2, hg'⟩
    exact ⟨_, rfl, ⟨_, _, _, rfl, hn', hr', h1, h2⟩, hg'⟩
  iterate 2
    refine Vc.Walk.call (.fits (Vc.All (PtrV w3.heap.size 25 [.bool false, .slice none 0 0]))) (st_gr (fun _ _ h => h) (fun _ _ _ h => h) PtrV.gr) (.no rfl) rfl rfl ?_ ?_
    · intro k W hI
      have hg := hI.g
      clear hI
      go_simp
      exact ⟨⟨_, rfl, hg.size, Row.new _ _ _⟩, Gr.alloc1 _ _⟩
  intro W hW
  have hW : Gr w3 W := hW
  clear HM0 HM1 hc0 hc1
  simp only [List.reverse_cons, List.reverse_nil, List.nil_append, List.cons_append, Vc.finish, Act.put, List.setIfInBounds_toArray, List.set_cons_zero, List.set_cons_succ]
  rintro u25 ⟨Ax, nx, cx, rfl, hnx, hrx, _⟩ u27 ⟨Ay, ny, cy, rfl, hny, hry, _⟩ u7 ⟨g7, rfl, h7, hR7⟩ u8 ⟨g8, rfl, h8, hR8⟩ hap
  have hne1 : g7 ≠ g8 := by intro e; exact hap 4 (by simp) 5 (by simp) (by decide) 7 8 rfl rfl (by subst e; rfl)
  clear hap
  simp only [List.drop_succ_cons, List.drop_zero]
  obtain ⟨s1, k1, G1⟩ := res2 hR7 hW h7 (.bool b0) (.slice Ax nx cx)
  have q8 := hR8.only k1 (fun e => hne1 e.symm)
  have x1 := hrx.keepStr hR7 (by simp) k1
  have y1 := hry.keepStr hR7 (by simp) k1
  have f90 : W.cell? ⟨g7, 0, none⟩ = some (.bool false) := hR7.cell 0
  have f91 : W.cell? ⟨g7, 1, none⟩ = some (.slice none 0 0) := hR7.cell 1
  have f92 : W.frozen? ⟨g7, 0, none⟩ = false := hR7.frozen 0
  have f93 : W.frozen? ⟨g7, 1, none⟩ = false := hR7.frozen 1
  clear hR7 hR8 hrx hry
  go_wp2_with (first
    | (with_reducible refine wpList_atW ((W.setCell ⟨g7, 0, none⟩ (.bool b0)).setCell ⟨g7, 1, none⟩ (.slice Ax nx cx)) ?_
       generalize (W.setCell ⟨g7, 0, none⟩ (.bool b0)).setCell ⟨g7, 1, none⟩ (.slice Ax nx cx) = Wa at *
       clear f90 f91 f92 f93
       obtain ⟨s2, k2, G2⟩ := res2 q8 G1 h8 (.bool b1) (.slice Ay ny cy)
       have t1 := s1.only k2 hne1
       have x2 := x1.keepStr q8 (by simp) k2
       have y2 := y1.keepStr q8 (by simp) k2
       have f90 : Wa.cell? ⟨g8, 0, none⟩ = some (.bool false) := q8.cell 0
       have f91 : Wa.cell? ⟨g8, 1, none⟩ = some (.slice none 0 0) := q8.cell 1
       have f92 : Wa.frozen? ⟨g8, 0, none⟩ = false := q8.frozen 0
       have f93 : Wa.frozen? ⟨g8, 1, none⟩ = false := q8.frozen 1
       clear q8 x1 y1 s1)
    | (with_reducible refine wpList_hereW 28 ((Wa.setCell ⟨g8, 0, none⟩ (.bool b1)).setCell ⟨g8, 1, none⟩ (.slice Ay ny cy)) rfl ?_
       generalize (Wa.setCell ⟨g8, 0, none⟩ (.bool b1)).setCell ⟨g8, 1, none⟩ (.slice Ay ny cy) = Wb at *
       clear f90 f91 f92 f93
       have e70 : Wb.cell? ⟨g7, 0, none⟩ = some (.bool b0) := t1.cell 0))
  clear e70 hW G1 k1 k2
  obtain ⟨hacc, hgd⟩ := new1 Wb 25 [.bool b0, .slice none 0 0]
  have hnx' := hnx.out
  have hcx := Lib.hid (show Wb.cell? ⟨g7, 0, none⟩ = some (.bool b0) ∧ Wb.cell? ⟨g7, 1, none⟩ = some (.slice Ax nx cx) from ⟨t1.cell 0, t1.cell 1⟩)
  have hcy := Lib.hid (show Wb.cell? ⟨g8, 0, none⟩ = some (.bool b1) ∧ Wb.cell? ⟨g8, 1, none⟩ = some (.slice Ay ny cy) from ⟨s2.cell 0, s2.cell 1⟩)
  have hG3b := hG3.trans' G2
  have hcA := Lib.hid (show Wb.cell? ⟨w.heap.size, 0, none⟩ = some (.bool b0) ∧ Wb.cell? ⟨w.heap.size, 1, none⟩ = some (.slice A0 n0 c0) from ⟨(hb0.gr G2).cell 0, (hb0.gr G2).cell 1⟩)
  have hcB := Lib.hid (show Wb.cell? ⟨w.heap.size + 1, 0, none⟩ = some (.bool b1) ∧ Wb.cell? ⟨w.heap.size + 1, 1, none⟩ = some (.slice A1 n1 c1) from ⟨(hb1.gr G2).cell 0, (hb1.gr G2).cell 1⟩)
  have hd0 := hd0.gr G2
  have hd1 := hd1.gr G2
  generalize Wb.alloc (.cells #[.bool b0, .slice none 0 0] 25) = Wd at *
  clear hb0 hb1 hr0 hr1 hG3 G2 h7 h8
  obtain ⟨i0, hi, hz0, hz1, hz2⟩ := info_parts info_str
  go_loopw [10] (fun i wr => ∃ j : Nat, j ≤ 2 * nx ∧ i = .int .i64 j ∧ ∃ A' c', Gr Wb wr ∧ Row wr Wb.heap.size 25 [.bool b0, .slice A' j c'] ∧ Own wr (Wb.heap.size + 1) 9 1 A' j c' ((turn X (by_ % nx).toNat j).map encStr)) (fun i _ => 2 * nx - (intOf i).toNat)
  case atStart => exact ⟨0, by omega, rfl, none, 0, hgd, hacc, Own.nil _ _ _ _⟩
  case round =>
    obtain ⟨j, hj, rfl, A', c', hb, hacr, ho⟩ := hrel
    have y0 := hb.cell hcx.out.2
    by_cases hlt : j < 2 * nx
    · have hx0 : 0 < nx := by omega
      have m0 : 0 ≤ by_ % nx := Int.emod_nonneg by_ (by omega)
      have m1 : by_ % nx < nx := Int.emod_lt_of_pos by_ (by omega)
      have HW := Lib.hid (fun W => within1_any by_ nx W hy hy' (by omega) (by omega))
      obtain ⟨m, hm⟩ := Int.eq_ofNat_of_zero_le m0
      rw [hm] at HW m1
      have hmt : (by_ % nx).toNat = m := by omega
      rw [hmt] at ho
      have hst := turn_snoc X m j
      rw [hnx'] at hst
      have hr : (j + m) % nx < nx := Nat.mod_lt _ hx0
      have hrl : (j + m) % nx < X.length := by omega
      obtain ⟨ad, rfl, hcr⟩ := x2.at_ (k := (j + m) % nx) (by simpa using hrl)
      have hgx : X.getD ((j + m) % nx) [] = X[(j + m) % nx] := by simp [List.getD_eq_getElem?_getD, hrl]
      rw [hgx] at hst
      simp only [List.getElem_map] at hcr
      have hrem : Int.tmod ((j + m : Nat) : Int) (nx : Int) = (((j + m) % nx : Nat) : Int) := rfl
      generalize hy1 : X[(j + m) % nx] = y at *
      clear hy1 hgx hrl
      have hrem := Lib.hid hrem
      have hst := Lib.hid hst
      have hcr := Lib.hid hcr
      have hm6 : m < 6 := by omega
      have hj12 : j < 12 := by omega
      generalize hr2 : (j + m) % nx = r at *
      clear hr2 m0 hm
      have HD := Lib.hid (fun W (h : Row W Wb.heap.size 25 [.bool b0, .slice A' j c']) => (h.cell 1 : W.cell? ⟨Wb.heap.size, 1, none⟩ = some (.slice A' j c')))
      generalize hxs : (turn X m j).map encStr = xs at *
      go_wp2_with fail
      clear y0
      refine Vc.wp_region_split ⟨Gr, fun _ W W' => W.grownBy W' (blkOf A'), fun k W => Gr Wb W ∧ Row W Wb.heap.size 25 [.bool b0, .slice A' j c'] ∧ (k = 0 → Own W (Wb.heap.size + 1) 9 1 A' j c' xs), [18]⟩ 20 [] (by kernel_rfl) (by kernel_rfl) (by kernel_rfl) (by decide) (by simp) (by simp) (by simp) (fun _ _ h => h.size) (fun _ _ _ h => h.size) (fun _ _ _ h h' => ⟨h'.1.trans' h, h'.2.1.gr h, fun hk => (h'.2.2 hk).gr h⟩) ⟨hb.trans' (Gr.draw _), hacr.gr (Gr.draw _), fun _ => ho.gr (Gr.draw _)⟩ ?_
      repeat
        refine Vc.Walk.pure (v := ?_) (fun _ => Gr.rfl' _) rfl (by first | exact Vc.GuardYes.no rfl | exact Vc.GuardYes.yes rfl rfl) rfl rfl ?_ ?_
        rotate_left
        · intro _ W hI
          (have q := hI.g; clear hI; have y1 := q.1.cell hcx.out.2; have y3 := q.1.cell hcr.out; have y2 := HD.out _ q.2.1; clear q)
          go_simp
          exact rfl
      refine Vc.Walk.call (.is (.int .i64 m)) trivial (.no rfl) rfl rfl ?_ ?_
      · intro k W hI
        clear hI
        go_simp
        refine (HW.out W).mono ?_
        rintro e W' ⟨rfl, rfl⟩
        exact ⟨_, rfl, rfl, Gr.rfl' _⟩
      refine Vc.Walk.call (.is (.int .i64 ((j + m : Nat) : Int))) trivial (.no rfl) rfl rfl ?_ ?_
      · intro k W hI
        clear hI
        go_simp
        refine ⟨?_, Gr.rfl' _⟩
        simp only [IntKind.wrap_i64]
        omega
      repeat
        refine Vc.Walk.pure (v := ?_) (fun _ => Gr.rfl' _) rfl (by first | exact Vc.GuardYes.no rfl | exact Vc.GuardYes.yes rfl rfl) rfl rfl ?_ ?_
        rotate_left
        · intro _ W hI
          (have q := hI.g; clear hI; have y1 := q.1.cell hcx.out.2; have y3 := q.1.cell hcr.out; have y2 := HD.out _ q.2.1; clear q)
          go_simp
          exact rfl
      refine Vc.Walk.call (.is (.int .i64 (r : Int))) trivial (.no rfl) rfl rfl ?_ ?_
      · intro k W hI
        clear hI
        go_simp
        rw [if_neg (by omega)]
        refine ⟨?_, Gr.rfl' _⟩
        have h := hrem.out
        simp only [Int.natCast_add] at h
        rw [h]
      repeat
        refine Vc.Walk.pure (v := ?_) (fun _ => Gr.rfl' _) rfl (by first | exact Vc.GuardYes.no rfl | exact Vc.GuardYes.yes rfl rfl) rfl rfl ?_ ?_
        rotate_left
        · intro _ W hI
          (have q := hI.g; clear hI; have y1 := q.1.cell hcx.out.2; have y3 := q.1.cell hcr.out; have y2 := HD.out _ q.2.1; clear q)
          go_simp
          exact rfl
      refine Vc.Walk.call (.fits (Vc.At 0 fun v W => ∃ g, v = .slice (some ⟨g, 0, none⟩) 1 1 ∧ Row W g 9 [encStr y])) (Vc.At.stable (fun u W W' hl hf => by obtain ⟨g, e, hR⟩ := hf; exact ⟨g, e, hR.gr hl⟩)) (.no rfl) rfl rfl ?_ ?_
      · intro k W hI
        have hk := hI.le 0 18 rfl (by kernel_rfl)
        obtain rfl : k = 0 := by omega
        clear hI
        go_simp
        exact ⟨⟨Nat.le_refl _, fun _ => ⟨_, rfl, Row.new W _ [encStr y]⟩⟩, Gr.alloc1 _ _⟩
      refine Vc.Walk.any (.fits (Vc.At 1 fun v W => ∃ A2 c2, v = .slice A2 (j + 1) c2 ∧ Own W (Wb.heap.size + 1) 9 1 A2 (j + 1) c2 (xs ++ [encStr y]))) (Vc.At.stable (fun u W W' hl hf => by obtain ⟨A2, c2, e, h⟩ := hf; exact ⟨A2, c2, e, h.gr hl⟩)) (.no rfl) ?_ ?_
      · intro ρ k W hI hf
        obtain rfl := hI.eq 0 rfl
        obtain ⟨q1, q2, q3⟩ := hI.g
        obtain ⟨hρ1, ⟨_, hf1⟩, _⟩ := hf
        obtain ⟨g, hρ2, hR⟩ := hf1 (Nat.le_refl _)
        have e1 : ρ (.tmp 40) = .slice A' j c' := hρ1
        have e2 : ρ (.tmp 56) = .slice (some ⟨g, 0, none⟩) 1 1 := hρ2
        obtain ⟨A2, c2, W', hrun, ho2, hk2⟩ := run_append (P := Try.prog) W (Wb.heap.size + 1) 23 23 9 i0 _ 1 16 Try.underlying23 hi hz0 hz1 hz2 rfl (by omega) A' j c' xs (q3 rfl) (some ⟨g, 0, none⟩) 1 1 [encStr y] rfl (Rd.of_row' hR) (by simp [Value.oneCell']) (by omega) (by unfold maxLen; omega) (by have := q2.lt; omega)
        have hbl : ∀ g, blkOf A' = some g → Wb.heap.size + 1 ≤ g := fun g hg => ((q3 rfl).blk g hg).1
        clear hI hf1 hρ1 hρ2
        unfold execOp
        simp only [resolve, invoke, builtin, Sem.run_bind, Sem.run_pure, Result.andThen_ok, List.map_toArray, List.map_cons, List.map_nil, e1, e2, hrun, Vc.okUpon]
        exact ⟨⟨Nat.le_refl _, fun _ => ⟨_, _, rfl, ho2⟩⟩, hk2.grown, q1.grownB hk2.grown (fun g hg => by have := hbl g hg; omega), q2.keepOwn hk2.grown (fun g hg => by have := hbl g hg; omega), fun h => (by cases h)⟩
      repeat
        refine Vc.Walk.pure (v := ?_) (fun _ => Gr.rfl' _) rfl (by first | exact Vc.GuardYes.no rfl | exact Vc.GuardYes.yes rfl rfl) rfl rfl ?_ ?_
        rotate_left
        · intro _ W hI
          (have q := hI.g; clear hI; have y1 := q.1.cell hcx.out.2; have y3 := q.1.cell hcr.out; have y2 := HD.out _ q.2.1; clear q)
          go_simp
          exact rfl
      intro W hW2
      obtain ⟨hbw, hR3, _⟩ := hW2
      simp only [List.reverse_cons, List.reverse_nil, List.nil_append, List.cons_append, Vc.finish, Act.put, List.setIfInBounds_toArray, List.set_cons_zero, List.set_cons_succ]
      rintro u56 _ u57 ⟨_, hu⟩ _
      obtain ⟨A2, c2, rfl, ho2⟩ := hu (Nat.le_refl _)
      simp only [List.drop_succ_cons, List.drop_zero]
      have hq0 : W.cell? ⟨Wb.heap.size, 1, none⟩ = some (.slice A' j c') := hR3.cell 1
      have hf0 : W.frozen? ⟨Wb.heap.size, 1, none⟩ = false := hR3.frozen 1
      have hRn := Lib.hid (hR3.set 1 (.slice A2 (j + 1) c2))
      have hon := Lib.hid (ho2.keep (only_set W Wb.heap.size 1 (.slice A2 (j + 1) c2)) (fun g hg e => by have := (ho2.blk g hg).1; injection e with e; omega))
      have hbn := Lib.hid (hbw.only (only_set W Wb.heap.size 1 (.slice A2 (j + 1) c2)) (Nat.le_refl _))
      clear ho2 hu
      go_wp2_with fail
      go_roundw
      case rel =>
        refine ⟨j + 1, by omega, by go_num, A2, c2, hbn.out, hRn.out, ?_⟩
        rw [hmt, hst.out, List.map_append]
        exact hxs ▸ hon.out
      case measure => simp [intOf]; omega
    · obtain rfl : j = 2 * nx := by omega
      have hTm := turn_mem X (by_ % nx).toNat
      have hTl := turn_length X (by_ % nx).toNat (2 * nx)
      rw [hnx'] at hTm
      generalize turn X (by_ % nx).toNat (2 * nx) = T at *
      go_wp2_with fail
      have hxd := x2.gr hb
      have hyd := y2.gr hb
      have had := hd0.gr hb
      have hbd := hd1.gr hb
      have hnx6 : nx ≤ 6 := by omega
      have hny6 : ny ≤ 6 := by have := hny.out; omega
      have HXY := Lib.hid (fun W h h' => both_any b0 Ax nx cx X b1 Ay ny cy Y W hnx h (by omega) hny h' (by omega))
      have HEXY := Lib.hid (fun W h h' => either_any b0 Ax nx cx X b1 Ay ny cy Y W hnx h (by omega) hny h' (by omega))
      have HNX := Lib.hid (fun W h => not_any b0 Ax nx cx X W hnx h (by omega))
      have HAB := Lib.hid (fun W h h' => both_any b0 A0 n0 c0 L0 b1 A1 n1 c1 L1 W hn0 h (by omega) hn1 h' (by omega))
      have HNA := Lib.hid (fun W h => not_any b0 A0 n0 c0 L0 W hn0 h (by omega))
      refine Vc.wp_region_split ⟨Gr, fun _ => Gr, fun _ W => Gr wr W, []⟩ 13 [] (by kernel_rfl) (by kernel_rfl) (by kernel_rfl) (by decide) (by simp) (by simp) (by simp) (fun _ _ h => h.size) (fun _ _ _ h => h.size) (fun _ _ _ h h' => h'.trans' h) (Gr.draw _) ?_
      repeat
        refine Vc.Walk.pure (v := ?_) (fun _ => Gr.rfl' _) rfl (by first | exact Vc.GuardYes.no rfl | exact Vc.GuardYes.yes rfl rfl) rfl rfl ?_ ?_
        rotate_left
        · intro _ W hI
          (have q := hb.trans' hI.g; clear hI; have y0 := q.cell hcx.out.1; have y1 := q.cell hcx.out.2; have y2 := q.cell hcy.out.1; have y3 := q.cell hcy.out.2; have y4 := q.cell hcA.out.1; have y5 := q.cell hcA.out.2; have y6 := q.cell hcB.out.1; have y7 := q.cell hcB.out.2; clear q)
          go_simp
          exact rfl
      refine Vc.Walk.any (.fits (Vc.All (NmV (b0 && b1) (bothL b0 b1 X Y)))) (st_gr (fun _ _ h => h) (fun _ _ _ h => h) NmV.gr) (by first | exact .no rfl | exact .yes rfl rfl) ?_ ?_
      · intro ρ k W hI hf
        obtain ⟨hρ0, hρ1, hρ2, _⟩ := hf
        have hg := hI.g
        have e0 : ρ (.func 19) = .func (.func 19) #[] #[] := hρ0
        have e1 : ρ (.tmp 59) = .agg #[.bool b0, .slice Ax nx cx] := hρ1
        have e2 : ρ (.tmp 60) = .agg #[.bool b1, .slice Ay ny cy] := hρ2
        clear hI hρ0 hρ1 hρ2
        go_simp
        refine (HXY.out _ (hxd.gr hg) (hyd.gr hg)).mono ?_
        rintro e W' ⟨A', n', c', rfl, hn', hr', h1, h2, hg'⟩
        exact ⟨_, rfl, ⟨_, _, _, rfl, hn', hr', h1, h2⟩, hg'⟩
      repeat
        refine Vc.Walk.pure (v := ?_) (fun _ => Gr.rfl' _) rfl (by first | exact Vc.GuardYes.no rfl | exact Vc.GuardYes.yes rfl rfl) rfl rfl ?_ ?_
        rotate_left
        · intro _ W hI
          (have q := hb.trans' hI.g; clear hI; have y0 := q.cell hcx.out.1; have y1 := q.cell hcx.out.2; have y2 := q.cell hcy.out.1; have y3 := q.cell hcy.out.2; have y4 := q.cell hcA.out.1; have y5 := q.cell hcA.out.2; have y6 := q.cell hcB.out.1; have y7 := q.cell hcB.out.2; clear q)
          go_simp
          exact rfl
      refine Vc.Walk.any (.fits (Vc.All (NmV (b0 || b1) (eitherL b0 b1 X Y)))) (st_gr (fun _ _ h => h) (fun _ _ _ h => h) NmV.gr) (by first | exact .no rfl | exact .yes rfl rfl) ?_ ?_
      · intro ρ k W hI hf
        obtain ⟨hρ0, hρ1, hρ2, _⟩ := hf
        have hg := hI.g
        have e0 : ρ (.func 20) = .func (.func 20) #[] #[] := hρ0
        have e1 : ρ (.tmp 62) = .agg #[.bool b0, .slice Ax nx cx] := hρ1
        have e2 : ρ (.tmp 63) = .agg #[.bool b1, .slice Ay ny cy] := hρ2
        clear hI hρ0 hρ1 hρ2
        go_simp
        refine (HEXY.out _ (hxd.gr hg) (hyd.gr hg)).mono ?_
        rintro e W' ⟨A', n', c', rfl, hn', hr', h1, h2, hg'⟩
        exact ⟨_, rfl, ⟨_, _, _, rfl, hn', hr', h1, h2⟩, hg'⟩
      repeat
        refine Vc.Walk.pure (v := ?_) (fun _ => Gr.rfl' _) rfl (by first | exact Vc.GuardYes.no rfl | exact Vc.GuardYes.yes rfl rfl) rfl rfl ?_ ?_
        rotate_left
        · intro _ W hI
          (have q := hb.trans' hI.g; clear hI; have y0 := q.cell hcx.out.1; have y1 := q.cell hcx.out.2; have y2 := q.cell hcy.out.1; have y3 := q.cell hcy.out.2; have y4 := q.cell hcA.out.1; have y5 := q.cell hcA.out.2; have y6 := q.cell hcB.out.1; have y7 := q.cell hcB.out.2; clear q)
          go_simp
          exact rfl
      refine Vc.Walk.any (.fits (Vc.All (NmV (!b0) (ofL X)))) (st_gr (fun _ _ h => h) (fun _ _ _ h => h) NmV.gr) (by first | exact .no rfl | exact .yes rfl rfl) ?_ ?_
      · intro ρ k W hI hf
        obtain ⟨hρ0, hρ1, _⟩ := hf
        have hg := hI.g
        have e0 : ρ (.func 16) = .func (.func 16) #[] #[] := hρ0
        have e1 : ρ (.tmp 65) = .agg #[.bool b0, .slice Ax nx cx] := hρ1
        clear hI hρ0 hρ1
        go_simp
        refine (HNX.out _ (hxd.gr hg)).mono ?_
        rintro e W' ⟨A', n', c', rfl, hn', hr', h1, h2, hg'⟩
        exact ⟨_, rfl, ⟨_, _, _, rfl, hn', hr', h1, h2⟩, hg'⟩
      repeat
        refine Vc.Walk.pure (v := ?_) (fun _ => Gr.rfl' _) rfl (by first | exact Vc.GuardYes.no rfl | exact Vc.GuardYes.yes rfl rfl) rfl rfl ?_ ?_
        rotate_left
        · intro _ W hI
          (have q := hb.trans' hI.g; clear hI; have y0 := q.cell hcx.out.1; have y1 := q.cell hcx.out.2; have y2 := q.cell hcy.out.1; have y3 := q.cell hcy.out.2; have y4 := q.cell hcA.out.1; have y5 := q.cell hcA.out.2; have y6 := q.cell hcB.out.1; have y7 := q.cell hcB.out.2; clear q)
          go_simp
          exact rfl
      refine Vc.Walk.any (.fits (Vc.All (NmV (b0 && b1) (bothL b0 b1 L0 L1)))) (st_gr (fun _ _ h => h) (fun _ _ _ h => h) NmV.gr) (by first | exact .no rfl | exact .yes rfl rfl) ?_ ?_
      · intro ρ k W hI hf
        obtain ⟨hρ0, hρ1, hρ2, _⟩ := hf
        have hg := hI.g
        have e0 : ρ (.func 19) = .func (.func 19) #[] #[] := hρ0
        have e1 : ρ (.tmp 67) = .agg #[.bool b0, .slice A0 n0 c0] := hρ1
        have e2 : ρ (.tmp 68) = .agg #[.bool b1, .slice A1 n1 c1] := hρ2
        clear hI hρ0 hρ1 hρ2
        go_simp
        refine (HAB.out _ (had.gr hg) (hbd.gr hg)).mono ?_
        rintro e W' ⟨A', n', c', rfl, hn', hr', h1, h2, hg'⟩
        exact ⟨_, rfl, ⟨_, _, _, rfl, hn', hr', h1, h2⟩, hg'⟩
      repeat
        refine Vc.Walk.pure (v := ?_) (fun _ => Gr.rfl' _) rfl (by first | exact Vc.GuardYes.no rfl | exact Vc.GuardYes.yes rfl rfl) rfl rfl ?_ ?_
        rotate_left
        · intro _ W hI
          (have q := hb.trans' hI.g; clear hI; have y0 := q.cell hcx.out.1; have y1 := q.cell hcx.out.2; have y2 := q.cell hcy.out.1; have y3 := q.cell hcy.out.2; have y4 := q.cell hcA.out.1; have y5 := q.cell hcA.out.2; have y6 := q.cell hcB.out.1; have y7 := q.cell hcB.out.2; clear q)
          go_simp
          exact rfl
      refine Vc.Walk.any (.fits (Vc.All (NmV (!b0) (ofL L0)))) (st_gr (fun _ _ h => h) (fun _ _ _ h => h) NmV.gr) (by first | exact .no rfl | exact .yes rfl rfl) ?_ ?_
      · intro ρ k W hI hf
        obtain ⟨hρ0, hρ1, _⟩ := hf
        have hg := hI.g
        have e0 : ρ (.func 16) = .func (.func 16) #[] #[] := hρ0
        have e1 : ρ (.tmp 70) = .agg #[.bool b0, .slice A0 n0 c0] := hρ1
        clear hI hρ0 hρ1
        go_simp
        refine (HNA.out _ (had.gr hg)).mono ?_
        rintro e W' ⟨A', n', c', rfl, hn', hr', h1, h2, hg'⟩
        exact ⟨_, rfl, ⟨_, _, _, rfl, hn', hr', h1, h2⟩, hg'⟩
      intro W hW
      have hW : Gr wr W := hW
      clear HXY HEXY HNX HAB HNA
      simp only [List.reverse_cons, List.reverse_nil, List.nil_append, List.cons_append, Vc.finish, Act.put, List.setIfInBounds_toArray, List.set_cons_zero, List.set_cons_succ]
      rintro u61 ⟨B0, m0, d0, rfl, hm0, hB0, _⟩ u64 ⟨B1, m1, d1, rfl, hm1, hB1, _⟩ u66 ⟨B2, m2, d2, rfl, hm2, hB2, _⟩ u69 ⟨B3, m3, d3, rfl, hm3, hB3, _⟩ u71 ⟨B4, m4, d4, rfl, hm4, hB4, _⟩ _
      simp only [List.drop_succ_cons, List.drop_zero]
      generalize hf0 : (b0 && b1) = f0 at *
      generalize hf1 : (b0 || b1) = f1 at *
      generalize hf2 : (!b0) = f2 at *
      go_wp2_with fail
      obtain ⟨We, hWe⟩ : ∃ V, V = W.alloc (.cells ([.bool f0, .slice B0 m0 d0, .bool f1, .slice B1 m1 d1, .bool f2, .slice B2 m2 d2, .bool f0, .slice B3 m3 d3, .bool f2, .slice B4 m4 d4] : List Value).toArray 25) := ⟨_, rfl⟩
      refine code_at hWe ?_
      obtain ⟨hRl, hgl⟩ := new1 W 25 [.bool f0, .slice B0 m0 d0, .bool f1, .slice B1 m1 d1, .bool f2, .slice B2 m2 d2, .bool f0, .slice B3 m3 d3, .bool f2, .slice B4 m4 d4]
      rw [← hWe] at hRl hgl
      clear hWe
      have hbe := (hb.trans' hW).trans' hgl
      have hTr := ((ho.rd).gr hW).gr hgl
      have hTe := (hacr.gr hW).gr hgl
      have hB0 := hB0.gr hgl
      have hB1 := hB1.gr hgl
      have hB2 := hB2.gr hgl
      have hB3 := hB3.gr hgl
      have hB4 := hB4.gr hgl
      have hkx := Lib.hid (show We.cell? ⟨g7, 0, none⟩ = some (.bool b0) ∧ We.cell? ⟨g7, 1, none⟩ = some (.slice Ax nx cx) from ⟨hbe.cell hcx.out.1, hbe.cell hcx.out.2⟩)
      have hky := Lib.hid (show We.cell? ⟨g8, 0, none⟩ = some (.bool b1) ∧ We.cell? ⟨g8, 1, none⟩ = some (.slice Ay ny cy) from ⟨hbe.cell hcy.out.1, hbe.cell hcy.out.2⟩)
      have hkt := Lib.hid (show We.cell? ⟨Wb.heap.size, 0, none⟩ = some (.bool b0) ∧ We.cell? ⟨Wb.heap.size, 1, none⟩ = some (.slice A' (2 * nx) c') from ⟨hTe.cell 0, hTe.cell 1⟩)
      have hkl := Lib.hid (fun i v (h : ([.bool f0, .slice B0 m0 d0, .bool f1, .slice B1 m1 d1, .bool f2, .slice B2 m2 d2, .bool f0, .slice B3 m3 d3, .bool f2, .slice B4 m4 d4] : List Value)[i]? = some v) => ((hRl.cell i).trans h : We.cell? ⟨W.heap.size, i, none⟩ = some v))
      have hxe := (hxd.gr hW).gr hgl
      have hye := (hyd.gr hW).gr hgl
      have hGe := hG3b.trans' hbe
      have l0 := bothL_length b0 b1 X Y
      have l1 := eitherL_length b0 b1 X Y
      have l2 := ofL_length_le X
      have l3 := bothL_length b0 b1 L0 L1
      have l4 := ofL_length_le L0
      have q0 := hn0.out
      have q1 := hn1.out
      have hTX : ofL T = ofL X := ofL_eq.2 hTm
      have hTB := both_congr b0 b1 Y hTX
      have hTE : eitherL b0 b1 T Y = eitherL b0 b1 X Y := by unfold eitherL; rw [hTX]
      have HTY : ∀ V, Rd V A' (T.map encStr) → Rd V Ay (Y.map encStr) → Calls Try.prog 19 #[.agg #[.bool b0, .slice A' (2 * nx) c'], .agg #[.bool b1, .slice Ay ny cy]] V (NmB V f0 (bothL b0 b1 X Y)) := by
        intro V h h'
        have := both_any b0 A' (2 * nx) c' T b1 Ay ny cy Y V (Lib.hid hTl) h (by omega) hny h' (by omega)
        rwa [hf0, hTB] at this
      have HTE : ∀ V, Rd V A' (T.map encStr) → Rd V Ay (Y.map encStr) → Calls Try.prog 20 #[.agg #[.bool b0, .slice A' (2 * nx) c'], .agg #[.bool b1, .slice Ay ny cy]] V (NmB V f1 (eitherL b0 b1 X Y)) := by
        intro V h h'
        have := either_any b0 A' (2 * nx) c' T b1 Ay ny cy Y V (Lib.hid hTl) h (by omega) hny h' (by omega)
        rwa [hf1, hTE] at this
      have HTN : ∀ V, Rd V A' (T.map encStr) → Calls Try.prog 16 #[.agg #[.bool b0, .slice A' (2 * nx) c']] V (NmB V f2 (ofL X)) := by
        intro V h
        have := not_any b0 A' (2 * nx) c' T V (Lib.hid hTl) h (by omega)
        rwa [hf2, hTX] at this
      have HTS : ∀ V, Rd V Ax (X.map encStr) → Rd V A' (T.map encStr) → Calls Try.prog 21 #[.agg #[.bool b0, .slice Ax nx cx], .agg #[.bool b0, .slice A' (2 * nx) c']] V fun e w' => e = .returned (.bool true) ∧ Gr V w' := by
        intro V h h'
        have := same_any b0 Ax nx cx X b0 A' (2 * nx) c' T V hnx h (by omega) (Lib.hid hTl) h' (by omega)
        rwa [show sameL b0 b0 X T = true by simp [sameL, hTX]] at this
      have HX0 : ∀ A n c V, Hid ((bothL b0 b1 X Y).length = n) → Rd V A ((bothL b0 b1 X Y).map encStr) → Rd V B0 ((bothL b0 b1 X Y).map encStr) → Calls Try.prog 22 #[.agg #[.bool f0, .slice A n c], .agg #[.bool f0, .slice B0 m0 d0]] V fun e w' => e = .returned (.bool true) ∧ Gr V w' := by
        intro A n c V h1 h h'
        obtain rfl : n = m0 := h1.out.symm.trans hm0.out
        exact exact_any f0 A n c B0 d0 _ V h1 h h' (by have := h1.out; omega)
      have HX1 : ∀ A n c V, Hid ((eitherL b0 b1 X Y).length = n) → Rd V A ((eitherL b0 b1 X Y).map encStr) → Rd V B1 ((eitherL b0 b1 X Y).map encStr) → Calls Try.prog 22 #[.agg #[.bool f1, .slice A n c], .agg #[.bool f1, .slice B1 m1 d1]] V fun e w' => e = .returned (.bool true) ∧ Gr V w' := by
        intro A n c V h1 h h'
        obtain rfl : n = m1 := h1.out.symm.trans hm1.out
        exact exact_any f1 A n c B1 d1 _ V h1 h h' (by have := h1.out; omega)
      have HX2 : ∀ A n c V, Hid ((ofL X).length = n) → Rd V A ((ofL X).map encStr) → Rd V B2 ((ofL X).map encStr) → Calls Try.prog 22 #[.agg #[.bool f2, .slice A n c], .agg #[.bool f2, .slice B2 m2 d2]] V fun e w' => e = .returned (.bool true) ∧ Gr V w' := by
        intro A n c V h1 h h'
        obtain rfl : n = m2 := h1.out.symm.trans hm2.out
        exact exact_any f2 A n c B2 d2 _ V h1 h h' (by have := h1.out; omega)
      have hall : ∀ j, j < 5 → ∃ (An : Option Addr) (nn cc : Nat) (S : List Str), ([.bool f0, .slice B0 m0 d0, .bool f1, .slice B1 m1 d1, .bool f2, .slice B2 m2 d2, .bool f0, .slice B3 m3 d3, .bool f2, .slice B4 m4 d4] : List Value)[j * 2 + 1]? = some (.slice An nn cc) ∧ Hid (S.length = nn) ∧ Rd We An (S.map encStr) ∧ Hid (S.Pairwise (· < ·)) ∧ nn ≤ 50 := by
        intro j hj
        have hj5 : j = 0 ∨ j = 1 ∨ j = 2 ∨ j = 3 ∨ j = 4 := by omega
        rcases hj5 with rfl | rfl | rfl | rfl | rfl
        · exact ⟨_, _, _, _, rfl, hm0, hB0, Lib.hid (both_sorted b0 b1 X Y), by have := hm0.out; omega⟩
        · exact ⟨_, _, _, _, rfl, hm1, hB1, Lib.hid (ofL_sorted _), by have := hm1.out; omega⟩
        · exact ⟨_, _, _, _, rfl, hm2, hB2, Lib.hid (ofL_sorted _), by have := hm2.out; omega⟩
        · exact ⟨_, _, _, _, rfl, hm3, hB3, Lib.hid (both_sorted b0 b1 L0 L1), by have := hm3.out; omega⟩
        · exact ⟨_, _, _, _, rfl, hm4, hB4, Lib.hid (ofL_sorted _), by have := hm4.out; omega⟩
      replace hall := Lib.hid hall
      replace HTY := Lib.hid HTY
      replace HTE := Lib.hid HTE
      replace HTN := Lib.hid HTN
      replace HTS := Lib.hid HTS
      replace HX0 := Lib.hid HX0
      replace HX1 := Lib.hid HX1
      replace HX2 := Lib.hid HX2
      generalize bothL b0 b1 X Y = LXY at *
      generalize eitherL b0 b1 X Y = EXY at *
      generalize ofL X = NX at *
      clear l0 l1 l2 l3 l4 q0 q1 hTX hTB hTE hTm hRl hTe hf0 hf1 hf2 hcx hcy hcA hcB hxd hyd had hbd hacr ho x2 y2 hd0 hd1
      go_loopw [12] (fun i wq => ∃ j : Nat, j ≤ 5 ∧ i = .int .i64 j ∧ Gr We wq) (fun i _ => 5 - (intOf i).toNat)
      case atStart => exact ⟨0, by omega, rfl, Gr.rfl' _⟩
      case round =>
        obtain ⟨j, hj5, rfl, hq⟩ := hrel
        by_cases hlt5 : j < 5
        · obtain ⟨An, nn, cc, S, hv, hSl, hSr, hSs, hS50⟩ := hall.out j hlt5
          have hcj := Lib.hid (hkl.out _ _ hv)
          have hcq : wr.cell? ⟨W.heap.size, j * 2 + 1, none⟩ = some (.slice An nn cc) := hq.cell hcj.out
          clear hv
          go_wp2_with fail
          go_loopw [13] (fun k wk => ∃ k' : Nat, k = .int .i64 ((k' + 1 : Nat) : Int) ∧ (k' + 1 ≤ nn ∨ k' = 0) ∧ Gr We wk) (fun k _ => 60 - (intOf k).toNat)
          case atStart => exact ⟨0, rfl, .inr rfl, hq⟩
          case round =>
            clear hcq
            obtain ⟨k', rfl, hk', hwk⟩ := hrel
            have hcq : wr.cell? ⟨W.heap.size, j * 2 + 1, none⟩ = some (.slice An nn cc) := hwk.cell hcj.out
            by_cases hltk : k' + 1 < nn
            · have hk1 : k' < S.length := by have := hSl.out; omega
              have hk2 : k' + 1 < S.length := by have := hSl.out; omega
              have hless := List.pairwise_iff_getElem.1 hSs.out k' (k' + 1) hk1 hk2 (by omega)
              obtain ⟨ad, rfl, hp0⟩ := hSr.at_ (k := k') (by simpa using hk1)
              obtain ⟨ad', e, hp1⟩ := hSr.at_ (k := k' + 1) (by simpa using hk2)
              injection e with e
              subst e
              have hp0 := Lib.hid (hwk.cell hp0)
              have hp1 := hwk.cell hp1
              rw [show ad.add (k' + 1) = ⟨ad.block, ad.off + (k' + 1), none⟩ from by unfold Addr.add; rw [if_neg (by omega)]] at hp1
              have hp1 := Lib.hid hp1
              simp only [List.getElem_map] at hp0 hp1
              generalize S[k'] = sx at *
              generalize S[k' + 1] = sy at *
              have hbl : Op.bytesLess sx sy = true := by rw [bytesLess_eq]; exact decide_eq_true hless
              have hcj := Lib.hid hcq
              have hk0 : k' < nn := by omega
              have hk0' : (k' : Int) + 1 < (nn : Int) := by omega
              clear hless
              go_wp2_with fail
              refine Vc.wp_region_facts ⟨Gr, fun _ => Gr, fun _ V => Gr wr V, []⟩ (by kernel_rfl) (by kernel_rfl) (fun _ _ _ h h' => h'.trans' h) (Gr.draw _) ?_
              iterate 6
                refine Vc.Walk.pure (v := ?_) (fun _ => Gr.rfl' _) rfl (by first | exact Vc.GuardYes.no rfl | exact Vc.GuardYes.yes rfl rfl) rfl rfl ?_ ?_
                rotate_left
                · intro _ V hI
                  have q := hI.g
                  clear hI
                  have y0 := q.cell hcj.out
                  clear q
                  go_simp
                  exact rfl
              refine Vc.Walk.call (.is (.int .i64 (k' : Int))) trivial (.no rfl) rfl rfl ?_ ?_
              · intro k V hI
                clear hI
                go_simp
                first
                  | exact ⟨rfl, Gr.rfl' _⟩
                  | (refine ⟨?_, Gr.rfl' _⟩; simp only [IntKind.wrap_i64]; omega)
              repeat
                refine Vc.Walk.pure (v := ?_) (fun _ => Gr.rfl' _) rfl (by first | exact Vc.GuardYes.no rfl | exact Vc.GuardYes.yes rfl rfl) rfl rfl ?_ ?_
                rotate_left
                · intro _ W hI
                  (have q := hI.g; clear hI; have y0 := q.cell hcj.out; have y1 := q.cell hp0.out; have y2 := q.cell hp1.out; clear q)
                  go_simp
                  exact rfl
              intro V hV
              have hV : Gr wr V := hV
              simp only [List.reverse_cons, List.reverse_nil, List.nil_append, List.cons_append, Vc.finish, Act.put, List.setIfInBounds_toArray, List.set_cons_zero, List.set_cons_succ]
              go_wp2_with fail
              go_roundw
              case rel => exact ⟨k' + 1, by go_num, .inl (by omega), hwk.trans' hV⟩
              case measure => simp [intOf]; omega
            · go_wp2_with fail
              go_roundw
              case rel => exact ⟨j + 1, by omega, by go_num, hwk⟩
              case measure => simp [intOf]; omega
        · obtain rfl : j = 5 := by omega
          go_wp2_with fail
          refine Vc.wp_region_facts ⟨Gr, fun _ => Gr, fun _ V => Gr We V, []⟩ (by kernel_rfl) (by kernel_rfl) (fun _ _ _ h h' => h'.trans' h) (hq.trans' (Gr.draw _)) ?_
          repeat
            refine Vc.Walk.pure (v := ?_) (fun _ => Gr.rfl' _) rfl (by first | exact Vc.GuardYes.no rfl | exact Vc.GuardYes.yes rfl rfl) rfl rfl ?_ ?_
            rotate_left
            · intro _ W hI
              (have q := hI.g; clear hI; have y0 := q.cell hkx.out.1; have y1 := q.cell hkx.out.2; have y2 := q.cell hky.out.1; have y3 := q.cell hky.out.2; have y4 := q.cell hkt.out.1; have y5 := q.cell hkt.out.2; have z0 := q.cell (hkl.out 0 _ rfl); have z1 := q.cell (hkl.out 1 _ rfl); have z2 := q.cell (hkl.out 2 _ rfl); have z3 := q.cell (hkl.out 3 _ rfl); have z4 := q.cell (hkl.out 4 _ rfl); have z5 := q.cell (hkl.out 5 _ rfl); clear q)
              go_simp
              exact rfl
          refine Vc.Walk.any (.is (.bool true)) trivial (by first | exact .no rfl | exact .yes rfl rfl) ?_ ?_
          · intro ρ k W hI hf
            obtain ⟨hρ0, hρ1, hρ2, _⟩ := hf
            have hg := hI.g
            have e0 : ρ (.func 21) = .func (.func 21) #[] #[] := hρ0
            have e1 : ρ (.tmp 107) = .agg #[.bool b0, .slice Ax nx cx] := hρ1
            have e2 : ρ (.tmp 108) = .agg #[.bool b0, .slice A' (2 * nx) c'] := hρ2
            clear hI hρ0 hρ1 hρ2
            go_simp
            refine (HTS.out _ (hxe.gr hg) (hTr.gr hg)).mono ?_
            rintro e W' ⟨rfl, hg'⟩
            exact ⟨_, rfl, rfl, hg'⟩
          repeat
            refine Vc.Walk.pure (v := ?_) (fun _ => Gr.rfl' _) rfl (by first | exact Vc.GuardYes.no rfl | exact Vc.GuardYes.yes rfl rfl) rfl rfl ?_ ?_
            rotate_left
            · intro _ W hI
              (have q := hI.g; clear hI; have y0 := q.cell hkx.out.1; have y1 := q.cell hkx.out.2; have y2 := q.cell hky.out.1; have y3 := q.cell hky.out.2; have y4 := q.cell hkt.out.1; have y5 := q.cell hkt.out.2; have z0 := q.cell (hkl.out 0 _ rfl); have z1 := q.cell (hkl.out 1 _ rfl); have z2 := q.cell (hkl.out 2 _ rfl); have z3 := q.cell (hkl.out 3 _ rfl); have z4 := q.cell (hkl.out 4 _ rfl); have z5 := q.cell (hkl.out 5 _ rfl); clear q)
              go_simp
              exact rfl
          refine Vc.Walk.any (.fits (Vc.All (NmV (f0) (LXY)))) (st_gr (fun _ _ h => h) (fun _ _ _ h => h) NmV.gr) (by first | exact .no rfl | exact .yes rfl rfl) ?_ ?_
          · intro ρ k W hI hf
            obtain ⟨hρ0, hρ1, hρ2, _⟩ := hf
            have hg := hI.g
            have e0 : ρ (.func 19) = .func (.func 19) #[] #[] := hρ0
            have e1 : ρ (.tmp 111) = .agg #[.bool b0, .slice A' (2 * nx) c'] := hρ1
            have e2 : ρ (.tmp 112) = .agg #[.bool b1, .slice Ay ny cy] := hρ2
            clear hI hρ0 hρ1 hρ2
            go_simp
            refine (HTY.out _ (hTr.gr hg) (hye.gr hg)).mono ?_
            rintro e W' ⟨A', n', c', rfl, hn', hr', h1, h2, hg'⟩
            exact ⟨_, rfl, ⟨_, _, _, rfl, hn', hr', h1, h2⟩, hg'⟩
          repeat
            refine Vc.Walk.pure (v := ?_) (fun _ => Gr.rfl' _) rfl (by first | exact Vc.GuardYes.no rfl | exact Vc.GuardYes.yes rfl rfl) rfl rfl ?_ ?_
            rotate_left
            · intro _ W hI
              (have q := hI.g; clear hI; have y0 := q.cell hkx.out.1; have y1 := q.cell hkx.out.2; have y2 := q.cell hky.out.1; have y3 := q.cell hky.out.2; have y4 := q.cell hkt.out.1; have y5 := q.cell hkt.out.2; have z0 := q.cell (hkl.out 0 _ rfl); have z1 := q.cell (hkl.out 1 _ rfl); have z2 := q.cell (hkl.out 2 _ rfl); have z3 := q.cell (hkl.out 3 _ rfl); have z4 := q.cell (hkl.out 4 _ rfl); have z5 := q.cell (hkl.out 5 _ rfl); clear q)
              go_simp
              exact rfl
          refine Vc.Walk.any (.is (.bool true)) trivial (by first | exact .no rfl | exact .yes rfl rfl) ?_ ?_
          · intro ρ k W hI hf
            obtain ⟨hρ0, ⟨A1, n1, c1, hρ1, hn1, hr1, _⟩, hρ2, _⟩ := hf
            have hg := hI.g
            have e0 : ρ (.func 22) = .func (.func 22) #[] #[] := hρ0
            have e1 : ρ (.tmp 113) = .agg #[.bool (f0), .slice A1 n1 c1] := hρ1
            have e2 : ρ (.tmp 116) = .agg #[.bool f0, .slice B0 m0 d0] := hρ2
            clear hI hρ0 hρ1 hρ2
            go_simp
            refine (HX0.out _ _ c1 _ hn1 hr1 (hB0.gr hg)).mono ?_
            rintro e W' ⟨rfl, hg'⟩
            exact ⟨_, rfl, rfl, hg'⟩
          repeat
            refine Vc.Walk.pure (v := ?_) (fun _ => Gr.rfl' _) rfl (by first | exact Vc.GuardYes.no rfl | exact Vc.GuardYes.yes rfl rfl) rfl rfl ?_ ?_
            rotate_left
            · intro _ W hI
              (have q := hI.g; clear hI; have y0 := q.cell hkx.out.1; have y1 := q.cell hkx.out.2; have y2 := q.cell hky.out.1; have y3 := q.cell hky.out.2; have y4 := q.cell hkt.out.1; have y5 := q.cell hkt.out.2; have z0 := q.cell (hkl.out 0 _ rfl); have z1 := q.cell (hkl.out 1 _ rfl); have z2 := q.cell (hkl.out 2 _ rfl); have z3 := q.cell (hkl.out 3 _ rfl); have z4 := q.cell (hkl.out 4 _ rfl); have z5 := q.cell (hkl.out 5 _ rfl); clear q)
              go_simp
              exact rfl
          refine Vc.Walk.any (.fits (Vc.All (NmV (f1) (EXY)))) (st_gr (fun _ _ h => h) (fun _ _ _ h => h) NmV.gr) (by first | exact .no rfl | exact .yes rfl rfl) ?_ ?_
          · intro ρ k W hI hf
            obtain ⟨hρ0, hρ1, hρ2, _⟩ := hf
            have hg := hI.g
            have e0 : ρ (.func 20) = .func (.func 20) #[] #[] := hρ0
            have e1 : ρ (.tmp 120) = .agg #[.bool b0, .slice A' (2 * nx) c'] := hρ1
            have e2 : ρ (.tmp 121) = .agg #[.bool b1, .slice Ay ny cy] := hρ2
            clear hI hρ0 hρ1 hρ2
            go_simp
            refine (HTE.out _ (hTr.gr hg) (hye.gr hg)).mono ?_
            rintro e W' ⟨A', n', c', rfl, hn', hr', h1, h2, hg'⟩
            exact ⟨_, rfl, ⟨_, _, _, rfl, hn', hr', h1, h2⟩, hg'⟩
          repeat
            refine Vc.Walk.pure (v := ?_) (fun _ => Gr.rfl' _) rfl (by first | exact Vc.GuardYes.no rfl | exact Vc.GuardYes.yes rfl rfl) rfl rfl ?_ ?_
            rotate_left
            · intro _ W hI
              (have q := hI.g; clear hI; have y0 := q.cell hkx.out.1; have y1 := q.cell hkx.out.2; have y2 := q.cell hky.out.1; have y3 := q.cell hky.out.2; have y4 := q.cell hkt.out.1; have y5 := q.cell hkt.out.2; have z0 := q.cell (hkl.out 0 _ rfl); have z1 := q.cell (hkl.out 1 _ rfl); have z2 := q.cell (hkl.out 2 _ rfl); have z3 := q.cell (hkl.out 3 _ rfl); have z4 := q.cell (hkl.out 4 _ rfl); have z5 := q.cell (hkl.out 5 _ rfl); clear q)
              go_simp
              exact rfl
          refine Vc.Walk.any (.is (.bool true)) trivial (by first | exact .no rfl | exact .yes rfl rfl) ?_ ?_
          · intro ρ k W hI hf
            obtain ⟨hρ0, ⟨A1, n1, c1, hρ1, hn1, hr1, _⟩, hρ2, _⟩ := hf
            have hg := hI.g
            have e0 : ρ (.func 22) = .func (.func 22) #[] #[] := hρ0
            have e1 : ρ (.tmp 122) = .agg #[.bool (f1), .slice A1 n1 c1] := hρ1
            have e2 : ρ (.tmp 125) = .agg #[.bool f1, .slice B1 m1 d1] := hρ2
            clear hI hρ0 hρ1 hρ2
            go_simp
            refine (HX1.out _ _ c1 _ hn1 hr1 (hB1.gr hg)).mono ?_
            rintro e W' ⟨rfl, hg'⟩
            exact ⟨_, rfl, rfl, hg'⟩
          repeat
            refine Vc.Walk.pure (v := ?_) (fun _ => Gr.rfl' _) rfl (by first | exact Vc.GuardYes.no rfl | exact Vc.GuardYes.yes rfl rfl) rfl rfl ?_ ?_
            rotate_left
            · intro _ W hI
              (have q := hI.g; clear hI; have y0 := q.cell hkx.out.1; have y1 := q.cell hkx.out.2; have y2 := q.cell hky.out.1; have y3 := q.cell hky.out.2; have y4 := q.cell hkt.out.1; have y5 := q.cell hkt.out.2; have z0 := q.cell (hkl.out 0 _ rfl); have z1 := q.cell (hkl.out 1 _ rfl); have z2 := q.cell (hkl.out 2 _ rfl); have z3 := q.cell (hkl.out 3 _ rfl); have z4 := q.cell (hkl.out 4 _ rfl); have z5 := q.cell (hkl.out 5 _ rfl); clear q)
              go_simp
              exact rfl
          refine Vc.Walk.any (.fits (Vc.All (NmV (f2) (NX)))) (st_gr (fun _ _ h => h) (fun _ _ _ h => h) NmV.gr) (by first | exact .no rfl | exact .yes rfl rfl) ?_ ?_
          · intro ρ k W hI hf
            obtain ⟨hρ0, hρ1, _⟩ := hf
            have hg := hI.g
            have e0 : ρ (.func 16) = .func (.func 16) #[] #[] := hρ0
            have e1 : ρ (.tmp 129) = .agg #[.bool b0, .slice A' (2 * nx) c'] := hρ1
            clear hI hρ0 hρ1
            go_simp
            refine (HTN.out _ (hTr.gr hg)).mono ?_
            rintro e W' ⟨A', n', c', rfl, hn', hr', h1, h2, hg'⟩
            exact ⟨_, rfl, ⟨_, _, _, rfl, hn', hr', h1, h2⟩, hg'⟩
          repeat
            refine Vc.Walk.pure (v := ?_) (fun _ => Gr.rfl' _) rfl (by first | exact Vc.GuardYes.no rfl | exact Vc.GuardYes.yes rfl rfl) rfl rfl ?_ ?_
            rotate_left
            · intro _ W hI
              (have q := hI.g; clear hI; have y0 := q.cell hkx.out.1; have y1 := q.cell hkx.out.2; have y2 := q.cell hky.out.1; have y3 := q.cell hky.out.2; have y4 := q.cell hkt.out.1; have y5 := q.cell hkt.out.2; have z0 := q.cell (hkl.out 0 _ rfl); have z1 := q.cell (hkl.out 1 _ rfl); have z2 := q.cell (hkl.out 2 _ rfl); have z3 := q.cell (hkl.out 3 _ rfl); have z4 := q.cell (hkl.out 4 _ rfl); have z5 := q.cell (hkl.out 5 _ rfl); clear q)
              go_simp
              exact rfl
          refine Vc.Walk.any (.is (.bool true)) trivial (by first | exact .no rfl | exact .yes rfl rfl) ?_ ?_
          · intro ρ k W hI hf
            obtain ⟨hρ0, ⟨A1, n1, c1, hρ1, hn1, hr1, _⟩, hρ2, _⟩ := hf
            have hg := hI.g
            have e0 : ρ (.func 22) = .func (.func 22) #[] #[] := hρ0
            have e1 : ρ (.tmp 130) = .agg #[.bool (f2), .slice A1 n1 c1] := hρ1
            have e2 : ρ (.tmp 133) = .agg #[.bool f2, .slice B2 m2 d2] := hρ2
            clear hI hρ0 hρ1 hρ2
            go_simp
            refine (HX2.out _ _ c1 _ hn1 hr1 (hB2.gr hg)).mono ?_
            rintro e W' ⟨rfl, hg'⟩
            exact ⟨_, rfl, rfl, hg'⟩
          repeat
            refine Vc.Walk.pure (v := ?_) (fun _ => Gr.rfl' _) rfl (by first | exact Vc.GuardYes.no rfl | exact Vc.GuardYes.yes rfl rfl) rfl rfl ?_ ?_
            rotate_left
            · intro _ W hI
              (have q := hI.g; clear hI; have y0 := q.cell hkx.out.1; have y1 := q.cell hkx.out.2; have y2 := q.cell hky.out.1; have y3 := q.cell hky.out.2; have y4 := q.cell hkt.out.1; have y5 := q.cell hkt.out.2; have z0 := q.cell (hkl.out 0 _ rfl); have z1 := q.cell (hkl.out 1 _ rfl); have z2 := q.cell (hkl.out 2 _ rfl); have z3 := q.cell (hkl.out 3 _ rfl); have z4 := q.cell (hkl.out 4 _ rfl); have z5 := q.cell (hkl.out 5 _ rfl); clear q)
              go_simp
              exact rfl
          intro V hV
          have hV : Gr We V := hV
          simp only [List.reverse_cons, List.reverse_nil, List.nil_append, List.cons_append, Vc.finish, Act.put, List.setIfInBounds_toArray, List.set_cons_zero, List.set_cons_succ]
          intro u113 _ u122 _ u130 _
          go_wp2_with fail
          go_ret
          exact ⟨rfl, hGe.trans' hV⟩
end Go.Proofs.Ytbjkfllghkcgcaa.namesOrder
