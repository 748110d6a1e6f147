/- Package names: Same, None; slices.Equal. -/
import Derived.Test.YtbjkfllghkcgcaaNm5
set_option linter.unusedVariables false
set_option linter.unusedSimpArgs false
namespace Go.Proofs.Ytbjkfllghkcgcaa
open Go.RowKit Go.Sort

attribute [local go_sem] Vc.known_tmp Vc.known_const Vc.known_func Vc.known_global Vc.lk Vc.okUpon Vc.Fact.holds

theorem equal_any (A : Option Addr) (n c : Nat) (X : List Str) (A2 : Option Addr) (n2 c2 : Nat) (Y : List Str) (w : World) (hn : Hid (X.length = n)) (hr : Rd w A (X.map encStr)) (hl : n ≤ 1000000)
    (hn2 : Hid (Y.length = n2)) (hr2 : Rd w A2 (Y.map encStr)) (hl2 : n2 ≤ 1000000) :
    Calls Try.prog 38 #[.slice A n c, .slice A2 n2 c2] w fun e w' => e = .returned (.bool (decide (X = Y))) ∧ Gr w w' := by
  have hn' := hn.out
  have hn2' := hn2.out
  by_cases hne : n = n2
  · subst hne
    by_cases h0 : 0 < n
    · obtain ⟨b, off, e, hc⟩ := hr.plain (by omega)
      obtain ⟨b2, off2, e2, hc2⟩ := hr2.plain (by omega)
      subst e e2
      refine (Try.slices_Equal_string b off n c b2 off2 n c2 (X.map ba) (Y.map ba) w (by simp; omega) (by simp; omega) (by omega) (by omega) (fun j hj => by
        rw [List.length_map] at hj
        rw [hc j hj, getD_ba hj]
        rfl) (fun j hj => by
        rw [List.length_map] at hj
        rw [hc2 j hj, getD_ba hj]
        rfl)).mono fun e w' ⟨he, q, hw⟩ => ?_
      subst hw
      rw [List.take_of_length_le (by simp; omega), List.take_of_length_le (by simp; omega)] at he
      refine ⟨?_, Gr.drawN _ _⟩
      rw [he]
      have : (X.map ba = Y.map ba) ↔ X = Y := by
        constructor
        · intro h
          have h' := congrArg (List.map fun z : ByteArray => z.data.toList) h
          simpa [Function.comp_def, ba_toList] using h'
        · intro h; rw [h]
      rw [decide_eq_decide.2 this]
    · obtain rfl : n = 0 := by omega
      have h1 : X = [] := List.eq_nil_of_length_eq_zero hn'
      have h2 : Y = [] := List.eq_nil_of_length_eq_zero hn2'
      subst h1 h2
      exact (Try.slices_Equal_string_empty A A2 c 0 c2 w (by omega)).mono fun e w' ⟨he, hw⟩ => ⟨by rw [he]; simp, by subst hw; exact Gr.rfl' _⟩
  · refine (Try.slices_Equal_string_lens A A2 n c n2 c2 w hne).mono fun e w' ⟨he, hw⟩ => ⟨?_, by subst hw; exact Gr.rfl' _⟩
    rw [he]
    have : ¬ X = Y := fun h => hne (by rw [← hn', ← hn2', h])
    rw [decide_eq_false this]

def sameL (b1 b2 : Bool) (L1 L2 : List Str) : Bool := (b1 == b2) && decide (ofL L1 = ofL L2)

set_option maxHeartbeats 400000 in
theorem same_any (b1 : Bool) (A1 : Option Addr) (n1 c1 : Nat) (L1 : List Str) (b2 : Bool) (A2 : Option Addr) (n2 c2 : Nat) (L2 : List Str) (w : World) (hn1 : Hid (L1.length = n1)) (hr1 : Rd w A1 (L1.map encStr)) (hl1 : n1 ≤ 1000000)
    (hn2 : Hid (L2.length = n2)) (hr2 : Rd w A2 (L2.map encStr)) (hl2 : n2 ≤ 1000000) :
    Calls Try.prog 21 #[.agg #[.bool b1, .slice A1 n1 c1], .agg #[.bool b2, .slice A2 n2 c2]] w fun e w' => e = .returned (.bool (sameL b1 b2 L1 L2)) ∧ Gr w w' := by
  have HO1 := Lib.hid (fun W h => of_any A1 n1 c1 L1 W hn1 h (by omega))
  have HO2 := Lib.hid (fun W h => of_any A2 n2 c2 L2 W hn2 h (by omega))
  have hz1 : (ofL L1).length ≤ 1000000 := by have := ofL_length_le L1; have := hn1.out; omega
  have hz2 : (ofL L2).length ≤ 1000000 := by have := ofL_length_le L2; have := hn2.out; omega
  have HE := Lib.hid (fun A n c A' n' c' W (h1 : Hid ((ofL L1).length = n)) h2 (h3 : Hid ((ofL L2).length = n')) h4 => equal_any A n c (ofL L1) A' n' c' (ofL L2) W h1 h2 (by have := h1.out; omega) h3 h4 (by have := h3.out; omega))
  clear hz1 hz2
  by_cases hb : b1 = b2
  · subst hb
    go_enter Try.func21, Try.ntmps21
    go_wp2_with fail
    obtain ⟨hrow, hrow2, hg1⟩ := new2 w 25 25 [.bool b1, .slice A1 n1 c1] [.bool b1, .slice A2 n2 c2]
    generalize (w.alloc (.cells #[.bool b1, .slice A1 n1 c1] 25)).alloc (.cells #[.bool b1, .slice A2 n2 c2] 25) = w1 at *
    have hc1 := Lib.hid (show w1.cell? ⟨w.heap.size, 0, none⟩ = some (.bool b1) ∧ w1.cell? ⟨w.heap.size, 1, none⟩ = some (.slice A1 n1 c1) from ⟨hrow.cell 0, hrow.cell 1⟩)
    have hc2 := Lib.hid (show w1.cell? ⟨w.heap.size + 1, 0, none⟩ = some (.bool b1) ∧ w1.cell? ⟨w.heap.size + 1, 1, none⟩ = some (.slice A2 n2 c2) from ⟨hrow2.cell 0, hrow2.cell 1⟩)
    have hd1 := hr1.gr hg1
    have hd2 := hr2.gr hg1
    refine Vc.wp_region_facts ⟨Gr, fun _ => Gr, fun _ W => Gr w1 W, []⟩ (by kernel_rfl) (by kernel_rfl) (fun _ _ _ h h' => h'.trans' h) (Gr.draw _) ?_
    repeat
      refine Vc.Walk.pure (v := ?_) (fun _ => Gr.rfl' _) rfl (by first | exact Vc.GuardYes.no rfl | exact Vc.GuardYes.yes rfl rfl) rfl rfl ?_ ?_
      rotate_left
      · intro _ W hI
        (have hx := hI.g.cell hc1.out.1; have hx' := hI.g.cell hc1.out.2; have hy := hI.g.cell hc2.out.1; have hy' := hI.g.cell hc2.out.2; clear hI)
        go_simp
        exact rfl
    refine Vc.Walk.call (.fits (Vc.All (SetV (ofL L1)))) (st_gr (fun _ _ h => h) (fun _ _ _ h => h) SetV.gr) (.yes rfl rfl) rfl rfl ?_ ?_
    · intro k W hI
      have hg := hI.g
      clear hI
      go_simp
      refine (HO1.out _ (hd1.gr hg)).mono ?_
      rintro e W' ⟨A', n', c', rfl, hn', hr', h1, h2, hg'⟩
      exact ⟨_, rfl, ⟨_, _, _, rfl, hn', hr', h1, h2⟩, hg'⟩
    refine Vc.Walk.any (.fits (Vc.All (SlV (ofL L1)))) (st_gr (fun _ _ h => h) (fun _ _ _ h => h) SlV.gr) (.yes rfl rfl) ?_ ?_
    · intro ρ k W hI hf
      obtain ⟨⟨A', n', c', hρ, hh⟩, _⟩ := hf
      have hh := Lib.hid hh
      clear hI
      go_simp
      exact ⟨⟨_, _, _, rfl, hh.out⟩, Gr.rfl' _⟩
    repeat
      refine Vc.Walk.pure (v := ?_) (fun _ => Gr.rfl' _) rfl (by first | exact Vc.GuardYes.no rfl | exact Vc.GuardYes.yes rfl rfl) rfl rfl ?_ ?_
      rotate_left
      · intro _ W hI
        (have hx := hI.g.cell hc1.out.1; have hx' := hI.g.cell hc1.out.2; have hy := hI.g.cell hc2.out.1; have hy' := hI.g.cell hc2.out.2; clear hI)
        go_simp
        exact rfl
    refine Vc.Walk.call (.fits (Vc.All (SetV (ofL L2)))) (st_gr (fun _ _ h => h) (fun _ _ _ h => h) SetV.gr) (.yes rfl rfl) rfl rfl ?_ ?_
    · intro k W hI
      have hg := hI.g
      clear hI
      go_simp
      refine (HO2.out _ (hd2.gr hg)).mono ?_
      rintro e W' ⟨A', n', c', rfl, hn', hr', h1, h2, hg'⟩
      exact ⟨_, rfl, ⟨_, _, _, rfl, hn', hr', h1, h2⟩, hg'⟩
    refine Vc.Walk.any (.fits (Vc.All (SlV (ofL L2)))) (st_gr (fun _ _ h => h) (fun _ _ _ h => h) SlV.gr) (.yes rfl rfl) ?_ ?_
    · intro ρ k W hI hf
      obtain ⟨⟨A', n', c', hρ, hh⟩, _⟩ := hf
      have hh := Lib.hid hh
      clear hI
      go_simp
      exact ⟨⟨_, _, _, rfl, hh.out⟩, Gr.rfl' _⟩
    refine Vc.Walk.any (.is (.bool (decide (ofL L1 = ofL L2)))) trivial (.yes rfl rfl) ?_ ?_
    · intro ρ k W hI hf
      obtain ⟨hρ0, ⟨A', n', c', hρ1, hn', hr', _⟩, ⟨A'', n'', c'', hρ2, hn'', hr'', _⟩, _⟩ := hf
      have e0 : ρ (.func 38) = .func (.func 38) #[] #[] := hρ0
      have e1 : ρ (.tmp 14) = .slice A' n' c' := hρ1
      have e2 : ρ (.tmp 18) = .slice A'' n'' c'' := hρ2
      clear hI hρ0 hρ1 hρ2
      go_simp
      refine (HE.out _ _ c' _ _ c'' _ hn' hr' hn'' hr'').mono ?_
      rintro e W' ⟨rfl, hg'⟩
      exact ⟨_, rfl, rfl, hg'⟩
    repeat
      refine Vc.Walk.pure (v := ?_) (fun _ => Gr.rfl' _) rfl (by first | exact Vc.GuardYes.no rfl | exact Vc.GuardYes.yes rfl rfl) rfl rfl ?_ ?_
      rotate_left
      · intro _ W hI
        (clear hI)
        go_simp
        exact rfl
    intro W hW
    have hW : Gr w1 W := hW
    simp only [List.reverse_cons, List.reverse_nil, List.nil_append, List.cons_append, Vc.finish, Act.put, List.setIfInBounds_toArray, List.set_cons_zero, List.set_cons_succ]
    intro u13 _ u14 _ u17 _ u18 _
    go_wp2_with fail
    go_ret
    exact ⟨by simp [sameL], hg1.trans' hW⟩
  · have hb' : (b1 == b2) = false := by simpa using hb
    go_enter Try.func21, Try.ntmps21
    go_wp2_with fail
    obtain ⟨hrow, hrow2, hg1⟩ := new2 w 25 25 [.bool b1, .slice A1 n1 c1] [.bool b2, .slice A2 n2 c2]
    generalize (w.alloc (.cells #[.bool b1, .slice A1 n1 c1] 25)).alloc (.cells #[.bool b2, .slice A2 n2 c2] 25) = w1 at *
    have hc1 := Lib.hid (show w1.cell? ⟨w.heap.size, 0, none⟩ = some (.bool b1) from hrow.cell 0)
    have hc2 := Lib.hid (show w1.cell? ⟨w.heap.size + 1, 0, none⟩ = some (.bool b2) from hrow2.cell 0)
    clear hb
    refine Vc.wp_region_facts ⟨Gr, fun _ => Gr, fun _ W => Gr w1 W, []⟩ (by kernel_rfl) (by kernel_rfl) (fun _ _ _ h h' => h'.trans' h) (Gr.draw _) ?_
    repeat
      refine Vc.Walk.pure (v := ?_) (fun _ => Gr.rfl' _) rfl (by first | exact Vc.GuardYes.no rfl | exact Vc.GuardYes.yes rfl rfl) rfl rfl ?_ ?_
      rotate_left
      · intro _ W hI
        (have hx := hI.g.cell hc1.out; have hy := hI.g.cell hc2.out; clear hI)
        go_simp
        exact rfl
    iterate 9 refine Vc.Walk.skip (fun _ => Gr.rfl' _) rfl rfl rfl (by decide) ?_
    repeat
      refine Vc.Walk.pure (v := ?_) (fun _ => Gr.rfl' _) rfl (by first | exact Vc.GuardYes.no rfl | exact Vc.GuardYes.yes rfl rfl) rfl rfl ?_ ?_
      rotate_left
      · intro _ W hI
        (clear hI)
        go_simp
        exact rfl
    intro W hW
    have hW : Gr w1 W := hW
    simp only [List.reverse_cons, List.reverse_nil, List.nil_append, List.cons_append, Vc.finish, Act.put, List.setIfInBounds_toArray, List.set_cons_zero, List.set_cons_succ]
    go_wp2_with fail
    go_ret
    exact ⟨by simp [sameL, hb'], hg1.trans' hW⟩

def noneL (b : Bool) (L : List Str) : Bool := !b && decide (L.length = 0)
theorem none_any (b : Bool) (A : Option Addr) (n c : Nat) (L : List Str) (w : World) (hn : Hid (L.length = n)) :
    Calls Try.prog 23 #[.agg #[.bool b, .slice A n c]] w fun e w' => e = .returned (.bool (noneL b L)) ∧ Gr w w' := by
  unfold noneL
  rw [hn.out]
  have hg1 := (new1 w 25 [.bool b, .slice A n c]).2
  by_cases h0 : n = 0
  · subst h0
    cases b
    all_goals
      go_enter Try.func23, Try.ntmps23
      go_wp2_with fail
      go_ret
      exact ⟨rfl, hg1⟩
  · have hf : decide (n = 0) = false := by simpa using h0
    rw [hf]
    cases b
    all_goals
      go_enter Try.func23, Try.ntmps23
      go_wp2_with fail
      go_ret
      exact ⟨by first | rfl | (simp; omega) | simp, hg1⟩
end Go.Proofs.Ytbjkfllghkcgcaa
