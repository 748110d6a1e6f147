/- Package names: Both. -/
import Derived.Test.YtbjkfllghkcgcaaNm4
set_option linter.unusedVariables false
set_option linter.unusedSimpArgs false
namespace Go.Proofs.Ytbjkfllghkcgcaa
open Go.RowKit Go.Sort

attribute [local go_sem] Vc.known_tmp Vc.known_const Vc.known_func Vc.known_global Vc.lk Vc.okUpon Vc.Fact.holds

def bothL (b1 b2 : Bool) (L1 L2 : List Str) : List Str :=
  match b1, b2 with
  | true, true => withL (ofL L1) (ofL L2)
  | true, false => onlyL (ofL L2) (ofL L1) false
  | false, true => onlyL (ofL L1) (ofL L2) false
  | false, false => onlyL (ofL L1) (ofL L2) true
theorem bothL_length (b1 b2 : Bool) (L1 L2 : List Str) : (bothL b1 b2 L1 L2).length ≤ L1.length + L2.length := by
  have h1 := ofL_length_le L1
  have h2 := ofL_length_le L2
  have h3 := ofL_length_le (ofL L1 ++ ofL L2)
  rw [List.length_append] at h3
  have h4 : ∀ X Y b, (onlyL X Y b).length ≤ X.length := fun X Y b => Nat.le_trans (ofL_length_le _) onlyR_length
  have h5 := h4 (ofL L2) (ofL L1) false
  have h6 := h4 (ofL L1) (ofL L2) false
  have h7 := h4 (ofL L1) (ofL L2) true
  cases b1 <;> cases b2 <;> simp only [bothL, withL] <;> omega

theorem run_field_set (v : Value) (w : World) : (Instr.field 56 (.agg #[v]) 0).run Try.prog w = .ok v w := by rfl
attribute [local go_sem] run_field_set

/-- Stands still at the operation that fills slot d, in world w. -/
theorem wpList_hereW {P : Program} {ops : Array Oper} {Q : Exit → Act → World → Prop} {rest : List Oper} {o : Oper} {a : Act} (d : Nat) (w : World) (h : o.dst = some d) (H : wpList P ops Q (o :: rest) a w) : wpList P ops Q (o :: rest) a w := H

/-- Stands still in world w. -/
theorem wpList_atW {P : Program} {ops : Array Oper} {Q : Exit → Act → World → Prop} {rest : List Oper} {o : Oper} {a : Act} (w : World) (H : wpList P ops Q (o :: rest) a w) : wpList P ops Q (o :: rest) a w := H

theorem makes_set {o : Oper} (hg : o.guard = none) (ho : o.op = .alloc 56) : Vc.Makes Try.prog o := by
  refine ⟨hg, fun ρ w n w' h => ?_⟩
  obtain ⟨d, op, ty, pos, af, gd⟩ := o
  simp only at ho
  subst ho
  simp [execOp, go_sem] at h
  obtain ⟨rfl, rfl⟩ := h
  exact ⟨rfl, (Row.new w _ _).lt⟩

def PtrV (B : Nat) (T : TypeId) (xs : List Value) (v : Value) (w : World) : Prop := ∃ g, v = .pointer (some ⟨g, 0, none⟩) ∧ B ≤ g ∧ Row w g T xs
theorem PtrV.gr {B : Nat} {T : TypeId} {xs : List Value} {v : Value} {w w' : World} (hg : Gr w w') (h : PtrV B T xs v w) : PtrV B T xs v w' := by
  obtain ⟨g, e, h1, hr⟩ := h
  exact ⟨g, e, h1, hr.gr hg⟩

set_option maxHeartbeats 4000000 in
theorem both_any (b1 : Bool) (A1 : Option Addr) (n1 c1 : Nat) (L1 : List Str) (b2 : Bool) (A2 : Option Addr) (n2 c2 : Nat) (L2 : List Str) (w : World) (hn1 : Hid (L1.length = n1)) (hr1 : Rd w A1 (L1.map encStr)) (hl1 : n1 ≤ 10000)
    (hn2 : Hid (L2.length = n2)) (hr2 : Rd w A2 (L2.map encStr)) (hl2 : n2 ≤ 10000) :
    Calls Try.prog 19 #[.agg #[.bool b1, .slice A1 n1 c1], .agg #[.bool b2, .slice A2 n2 c2]] w (NmB w (b1 && b2) (bothL b1 b2 L1 L2)) := by
  have HO1 := Lib.hid (fun W h => of_any A1 n1 c1 L1 W hn1 h (by omega))
  have HO2 := Lib.hid (fun W h => of_any A2 n2 c2 L2 W hn2 h (by omega))
  have hs1 := Lib.hid (ofL_sorted L1)
  have hs2 := Lib.hid (ofL_sorted L2)
  have hz1 : (ofL L1).length ≤ 10000 := by have := ofL_length_le L1; have := hn1.out; omega
  have hz2 : (ofL L2).length ≤ 10000 := by have := ofL_length_le L2; have := hn2.out; omega
  replace hz1 := Lib.hid hz1
  replace hz2 := Lib.hid hz2
  go_enter Try.func19, Try.ntmps19
  go_wp2_with fail
  obtain ⟨hrow, hrow2, hres, hg1⟩ := new3 w 25 25 25 [.bool b1, .slice A1 n1 c1] [.bool b2, .slice A2 n2 c2] [.bool false, .slice none 0 0]
  generalize ((w.alloc (.cells #[.bool b1, .slice A1 n1 c1] 25)).alloc (.cells #[.bool b2, .slice A2 n2 c2] 25)).alloc (.cells #[.bool false, .slice none 0 0] 25) = w1 at *
  have hc1 := Lib.hid (show w1.cell? ⟨w.heap.size, 1, none⟩ = some (.slice A1 n1 c1) from hrow.cell 1)
  have hc2 := Lib.hid (show w1.cell? ⟨w.heap.size + 1, 1, none⟩ = some (.slice A2 n2 c2) from hrow2.cell 1)
  have hd1 := hr1.gr hg1
  have hd2 := hr2.gr hg1
  refine Vc.wp_region_split ⟨Gr, fun _ => Gr, fun _ W => Gr w1 W, []⟩ 8 [6, 7] (by kernel_rfl) (by kernel_rfl) (by kernel_rfl) (by decide) (by simp) ?_ (by simp) (fun _ _ h => h.size) (fun _ _ _ h => h.size) (fun _ _ _ h h' => h'.trans' h) (Gr.draw _) ?_
  · intro i hi
    simp only [List.mem_cons, List.not_mem_nil, or_false] at hi
    rcases hi with rfl | rfl
    · exact ⟨_, rfl, makes_set rfl rfl⟩
    · exact ⟨_, rfl, makes_set rfl rfl⟩
  repeat
    refine Vc.Walk.pure (v := ?_) (fun _ => Gr.rfl' _) rfl (by first | exact Vc.GuardYes.no rfl | exact Vc.GuardYes.yes rfl rfl) rfl rfl ?_ ?_
    rotate_left
    · intro _ W hI
      (have hx := hI.g.cell hc1.out; have hy := hI.g.cell hc2.out; clear hI)
      go_simp
      exact rfl
  refine Vc.Walk.call (.fits (Vc.All (SetV (ofL L1)))) (st_gr (fun _ _ h => h) (fun _ _ _ h => h) SetV.gr) (.no rfl) rfl rfl ?_ ?_
  · intro k W hI
    have hg := hI.g
    clear hI
    go_simp
    refine (HO1.out _ (hd1.gr hg)).mono ?_
    rintro e W' ⟨A', n', c', rfl, hn', hr', h1, h2, hg'⟩
    exact ⟨_, rfl, ⟨_, _, _, rfl, hn', hr', h1, h2⟩, hg'⟩
  repeat
    refine Vc.Walk.pure (v := ?_) (fun _ => Gr.rfl' _) rfl (by first | exact Vc.GuardYes.no rfl | exact Vc.GuardYes.yes rfl rfl) rfl rfl ?_ ?_
    rotate_left
    · intro _ W hI
      (have hx := hI.g.cell hc1.out; have hy := hI.g.cell hc2.out; clear hI)
      go_simp
      exact rfl
  refine Vc.Walk.call (.fits (Vc.All (SetV (ofL L2)))) (st_gr (fun _ _ h => h) (fun _ _ _ h => h) SetV.gr) (.no rfl) rfl rfl ?_ ?_
  · intro k W hI
    have hg := hI.g
    clear hI
    go_simp
    refine (HO2.out _ (hd2.gr hg)).mono ?_
    rintro e W' ⟨A', n', c', rfl, hn', hr', h1, h2, hg'⟩
    exact ⟨_, rfl, ⟨_, _, _, rfl, hn', hr', h1, h2⟩, hg'⟩
  refine Vc.Walk.call (.fits (Vc.All (PtrV w1.heap.size 56 [.slice none 0 0]))) (st_gr (fun _ _ h => h) (fun _ _ _ h => h) PtrV.gr) (.no rfl) rfl rfl ?_ ?_
  · intro k W hI
    have hg := hI.g
    clear hI
    go_simp
    exact ⟨⟨_, rfl, hg.size, Row.new _ _ _⟩, Gr.alloc1 _ _⟩
  refine Vc.Walk.call (.fits (Vc.All (PtrV w1.heap.size 56 [.slice none 0 0]))) (st_gr (fun _ _ h => h) (fun _ _ _ h => h) PtrV.gr) (.no rfl) rfl rfl ?_ ?_
  · intro k W hI
    have hg := hI.g
    clear hI
    go_simp
    exact ⟨⟨_, rfl, hg.size, Row.new _ _ _⟩, Gr.alloc1 _ _⟩
  intro W hW
  have hW : Gr w1 W := hW
  clear HO1 HO2 hc1 hc2 hd1 hd2
  simp only [List.reverse_cons, List.reverse_nil, List.nil_append, List.cons_append, Vc.finish, Act.put, List.setIfInBounds_toArray, List.set_cons_zero, List.set_cons_succ]
  rintro u9 ⟨A9, n9, c9, rfl, hn9, hr9, h91, h92⟩ u12 ⟨A12, n12, c12, rfl, hn12, hr12, h121, h122⟩ u5 ⟨g5, rfl, h5, hR5⟩ u6 ⟨g6, rfl, h6, hR6⟩ hap
  have hne : g5 ≠ g6 := by
    intro e
    exact hap 6 (by simp) 7 (by simp) (by decide) 5 6 rfl rfl (by subst e; rfl)
  clear hap
  have hz0 := hres.lt
  have hr9' := (hr9.keepStr hR5 (by simp) (only_set W g5 0 (.slice A9 n9 c9))).keepStr (hR6.only (only_set W g5 0 (.slice A9 n9 c9)) (fun e => hne e.symm)) (by simp) (only_set _ g6 0 (.slice A12 n12 c12))
  have hr12' := (hr12.keepStr hR5 (by simp) (only_set W g5 0 (.slice A9 n9 c9))).keepStr (hR6.only (only_set W g5 0 (.slice A9 n9 c9)) (fun e => hne e.symm)) (by simp) (only_set _ g6 0 (.slice A12 n12 c12))
  have hkeep : ∀ {g T xs}, Row W g T xs → g ≠ g5 → g ≠ g6 → Row ((W.setCell ⟨g5, 0, none⟩ (.slice A9 n9 c9)).setCell ⟨g6, 0, none⟩ (.slice A12 n12 c12)) g T xs := fun h h1 h2 => (h.only (only_set W g5 0 _) h1).only (only_set _ g6 0 _) h2
  have hb1 := Lib.hid (hkeep (hrow.gr hW) (by omega) (by omega))
  have hb2 := Lib.hid (hkeep (hrow2.gr hW) (by omega) (by omega))
  have hb3 := Lib.hid (hkeep (hres.gr hW) (by omega) (by omega))
  have hk5 := ((hR5.set 0 (.slice A9 n9 c9)).only (only_set _ g6 0 (.slice A12 n12 c12)) hne).cell 0
  have hk6 := ((hR6.only (only_set W g5 0 (.slice A9 n9 c9)) (fun e => hne e.symm)).set 0 (.slice A12 n12 c12)).cell 0
  have hG : Gr w1 ((W.setCell ⟨g5, 0, none⟩ (.slice A9 n9 c9)).setCell ⟨g6, 0, none⟩ (.slice A12 n12 c12)) := (hW.only (only_set W g5 0 _) h5).only (only_set _ g6 0 _) h6
  have hq5 : W.cell? ⟨g5, 0, none⟩ = some (.slice none 0 0) := hR5.cell 0
  have hf5 : W.frozen? ⟨g5, 0, none⟩ = false := hR5.frozen 0
  have hq6 : (W.setCell ⟨g5, 0, none⟩ (.slice A9 n9 c9)).cell? ⟨g6, 0, none⟩ = some (.slice none 0 0) := (hR6.only (only_set W g5 0 (.slice A9 n9 c9)) (fun e => hne e.symm)).cell 0
  have hf6 : (W.setCell ⟨g5, 0, none⟩ (.slice A9 n9 c9)).frozen? ⟨g6, 0, none⟩ = false := (hR6.only (only_set W g5 0 (.slice A9 n9 c9)) (fun e => hne e.symm)).frozen 0
  replace hk5 := Lib.hid hk5
  replace hk6 := Lib.hid hk6
  replace hG := Lib.hid hG
  replace hr9' := Lib.hid hr9'
  replace hr12' := Lib.hid hr12'
  clear hkeep hrow hrow2 hres hr9 hr12 hR5 hR6
  simp only [List.drop_succ_cons, List.drop_zero]
  go_wp2_with (first
    | (with_reducible refine wpList_hereW 14 ((W.setCell ⟨g5, 0, none⟩ (.slice A9 n9 c9)).setCell ⟨g6, 0, none⟩ (.slice A12 n12 c12)) rfl ?_
       generalize (W.setCell ⟨g5, 0, none⟩ (.slice A9 n9 c9)).setCell ⟨g6, 0, none⟩ (.slice A12 n12 c12) = W2 at *
       have hB10 := Lib.hid (hb1.out.cell 0)
       have hB20 := Lib.hid (hb2.out.cell 0)
       have HW := Lib.hid (with_any A9 n9 c9 (ofL L1) A12 n12 c12 (ofL L2) W2 hn9 hr9'.out (by have := hz1.out; have := hn9.out; omega) hn12 hr12'.out (by have := hz2.out; have := hn12.out; omega))
       have HN := Lib.hid (fun b => only_any A9 n9 c9 (ofL L1) A12 n12 c12 (ofL L2) b W2 hn9 hr9'.out (by have := hz1.out; have := hn9.out; omega) hn12 hr12'.out (by have := hz2.out; have := hn12.out; omega) hs2)
       have HM := Lib.hid (fun b => only_any A12 n12 c12 (ofL L2) A9 n9 c9 (ofL L1) b W2 hn12 hr12'.out (by have := hz2.out; have := hn12.out; omega) hn9 hr9'.out (by have := hz1.out; have := hn9.out; omega) hs1)
       have hB10 := hB10.out
       have hB20 := hB20.out
       have hk5 := hk5.out
       have hk6 := hk6.out
       simp only [List.getElem?_cons_zero] at hB10 hB20
       simp only [List.set_cons_zero, List.getElem?_cons_zero] at hk5 hk6
       clear hW h5 h6 hz0
       cases b1 <;> cases b2)
    | (go_at_call 36; (with_reducible refine HW.out.mono ?_); rintro e w4 ⟨A4, n4, c4, rfl, hn4, hr4, h1, h2, hg4⟩
       have hrow := hb3.out.gr hg4
       have hq0 : w4.cell? ⟨w.heap.size + 1 + 1, 0, none⟩ = some (.bool false) := hrow.cell 0
       have hq1 : w4.cell? ⟨w.heap.size + 1 + 1, 1, none⟩ = some (.slice none 0 0) := hrow.cell 1
       have hf0 : w4.frozen? ⟨w.heap.size + 1 + 1, 0, none⟩ = false := hrow.frozen 0
       have hf1 : w4.frozen? ⟨w.heap.size + 1 + 1, 1, none⟩ = false := hrow.frozen 1
       have hn4 := Lib.hid hn4
       clear hk5 hk6 hB10 hB20)
    | (go_at_call 37; (first | (with_reducible refine (HN.out true).mono ?_) | (with_reducible refine (HN.out false).mono ?_) | (with_reducible refine (HM.out false).mono ?_)); rintro e w4 ⟨A4, n4, c4, rfl, hn4, hr4, h1, h2, hg4⟩
       have hrow := hb3.out.gr hg4
       have hq0 : w4.cell? ⟨w.heap.size + 1 + 1, 0, none⟩ = some (.bool false) := hrow.cell 0
       have hq1 : w4.cell? ⟨w.heap.size + 1 + 1, 1, none⟩ = some (.slice none 0 0) := hrow.cell 1
       have hf0 : w4.frozen? ⟨w.heap.size + 1 + 1, 0, none⟩ = false := hrow.frozen 0
       have hf1 : w4.frozen? ⟨w.heap.size + 1 + 1, 1, none⟩ = false := hrow.frozen 1
       have hn4 := Lib.hid hn4
       clear hk5 hk6 hB10 hB20))
  iterate 3
    · obtain ⟨hR, ho, hGG⟩ := res2 hrow ((hg1.trans' hG.out).trans' hg4) (by omega) (.bool false) (.slice A4 n4 c4)
      have hs0 := hR.cell 0
      have hs1 := hR.cell 1
      simp only [List.getElem?_cons_zero, List.getElem?_cons_succ] at hs0 hs1
      (try simp only [Exit.inBlock, Exit.then])
      refine bodyPost_ret (v := ?_) ?_ rfl ?_
      rotate_left
      · simp [results, Try.results19, go_sem, hs0, hs1]
        (try rfl)
      exact ⟨A4, n4, c4, rfl, hn4.out, hr4.keepStr hrow (by simp) ho, h1, h2, hGG⟩
  obtain ⟨hR, ho, hGG⟩ := res2 hrow ((hg1.trans' hG.out).trans' hg4) (by omega) (.bool true) (.slice A4 n4 c4)
  have hs0 := hR.cell 0
  have hs1 := hR.cell 1
  simp only [List.getElem?_cons_zero, List.getElem?_cons_succ] at hs0 hs1
  (try simp only [Exit.inBlock, Exit.then])
  refine bodyPost_ret (v := ?_) ?_ rfl ?_
  rotate_left
  · simp [results, Try.results19, go_sem, hs0, hs1]
    (try rfl)
  exact ⟨A4, n4, c4, rfl, hn4.out, hr4.keepStr hrow (by simp) ho, h1, h2, hGG⟩
end Go.Proofs.Ytbjkfllghkcgcaa
