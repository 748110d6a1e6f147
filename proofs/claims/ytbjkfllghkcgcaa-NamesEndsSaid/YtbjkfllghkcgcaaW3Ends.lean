/- The walk of NamesEnds. -/
import Derived.Test.YtbjkfllghkcgcaaNmK
set_option linter.unusedVariables false
set_option linter.unusedSimpArgs false
namespace Go.Proofs.Ytbjkfllghkcgcaa.namesEnds
open Go.RowKit Go.Sort

attribute [local go_sem] Vc.known_tmp Vc.known_const Vc.known_func Vc.known_global Vc.lk Vc.okUpon Vc.Fact.holds

set_option maxRecDepth 20000 in
set_option maxHeartbeats 4000000 in
theorem walk (w : World) (b : Bool) (A : Option Addr) (n c : Nat) (L : List Str) (hn : Hid (L.length = n)) (hr : Rd w A (L.map encStr)) (hnc : n ≤ c) (hc : c ≤ maxLen) :
    Calls Try.prog 5 #[.agg #[.bool b, .slice A n c]] w fun e w' => e = .returned (.bool true) ∧ Below w.heap.size w w' := by
  obtain ⟨hrow0, hg0⟩ := new1 w 25 [.bool b, .slice A n c]
  have hF := Lib.hid (fun W => few_any b A n c W)
  by_cases h25 : n ≤ 25
  · rw [decide_eq_true h25] at hF
    go_enter Try.func5, Try.ntmps5
    go_wp2_with (first
      | (go_at_call 8; refine (known3_any _).mono ?_; rintro e w1 ⟨rfl, hg1⟩
         have hrow := hrow0.gr hg1
         have hc0 : w1.cell? ⟨w.heap.size, 0, none⟩ = some (.bool b) := hrow.cell 0
         have hc1 : w1.cell? ⟨w.heap.size, 1, none⟩ = some (.slice A n c) := hrow.cell 1)
      | (go_at_call 10; (with_reducible refine (hF.out _).mono ?_); rintro e w2 ⟨rfl, hg2⟩; have hrow2 := hrow.gr hg2; have hg2' := (hg0.trans' hg1).trans' hg2; clear hc0 hc1))
    obtain ⟨hr3, hr4, hg3⟩ := new2 w2 25 25 [.bool false, .slice none 0 0] [.bool true, .slice none 0 0]
    have hr1 := hrow2.gr hg3
    have hG3 := hg2'.trans' hg3
    generalize (w2.alloc (.cells #[.bool false, .slice none 0 0] 25)).alloc (.cells #[.bool true, .slice none 0 0] 25) = w3 at *
    have hcA := Lib.hid (show w3.cell? ⟨w.heap.size, 0, none⟩ = some (.bool b) ∧ w3.cell? ⟨w.heap.size, 1, none⟩ = some (.slice A n c) from ⟨hr1.cell 0, hr1.cell 1⟩)
    have hc3 := Lib.hid (show w3.cell? ⟨w2.heap.size, 0, none⟩ = some (.bool false) ∧ w3.cell? ⟨w2.heap.size, 1, none⟩ = some (.slice none 0 0) from ⟨hr3.cell 0, hr3.cell 1⟩)
    have hc4 := Lib.hid (show w3.cell? ⟨w2.heap.size + 1, 0, none⟩ = some (.bool true) ∧ w3.cell? ⟨w2.heap.size + 1, 1, none⟩ = some (.slice none 0 0) from ⟨hr4.cell 0, hr4.cell 1⟩)
    have hd := hr.gr hG3
    have hL : L.length ≤ 25 := by have := hn.out; omega
    have z1 := bothL_length b false L []
    have z2 := bothL_length b true L []
    have z3 := eitherL_length b false L []
    have z4 := eitherL_length b true L []
    have z7 := ofL_length_le ([] : List Str)
    have z8 := ofL_length_le L
    have z9 := eitherL_length b (!b) L (ofL L)
    simp only [List.length_nil] at z1 z2 z3 z4 z7
    have H1 := Lib.hid (fun W h => show Calls Try.prog 19 #[.agg #[.bool b, .slice A n c], .agg #[.bool false, .slice none 0 0]] W (NmB W false (bothL b false L [])) from by have := both_any b A n c L false none 0 0 [] W hn h (by omega) (Lib.hid rfl) (Rd.nil _ _) (by omega); rwa [Bool.and_false] at this)
    have H2 := Lib.hid (fun W h => show Calls Try.prog 19 #[.agg #[.bool b, .slice A n c], .agg #[.bool true, .slice none 0 0]] W (NmB W b (bothL b true L [])) from by have := both_any b A n c L true none 0 0 [] W hn h (by omega) (Lib.hid rfl) (Rd.nil _ _) (by omega); rwa [Bool.and_true] at this)
    have H3 := Lib.hid (fun W h => show Calls Try.prog 20 #[.agg #[.bool b, .slice A n c], .agg #[.bool false, .slice none 0 0]] W (NmB W b (eitherL b false L [])) from by have := either_any b A n c L false none 0 0 [] W hn h (by omega) (Lib.hid rfl) (Rd.nil _ _) (by omega); rwa [Bool.or_false] at this)
    have H4 := Lib.hid (fun W h => show Calls Try.prog 20 #[.agg #[.bool b, .slice A n c], .agg #[.bool true, .slice none 0 0]] W (NmB W true (eitherL b true L [])) from by have := either_any b A n c L true none 0 0 [] W hn h (by omega) (Lib.hid rfl) (Rd.nil _ _) (by omega); rwa [Bool.or_true] at this)
    have H7 := Lib.hid (fun W => show Calls Try.prog 16 #[.agg #[.bool false, .slice none 0 0]] W (NmB W true (ofL [])) from not_any false none 0 0 [] W (Lib.hid rfl) (Rd.nil _ _) (by omega))
    have H8 := Lib.hid (fun W h => not_any b A n c L W hn h (by omega))
    have H9 := Lib.hid (fun A' n' c' W h (h1 : Hid ((ofL L).length = n')) h2 => show Calls Try.prog 20 #[.agg #[.bool b, .slice A n c], .agg #[.bool (!b), .slice A' n' c']] W (NmB W true (eitherL b (!b) L (ofL L))) from by have := either_any b A n c L (!b) A' n' c' (ofL L) W hn h (by omega) h1 h2 (by have := h1.out; omega); rwa [Bool.or_not_self] at this)
    have K1 := Lib.hid (fun A' n' c' W h1 => show Calls Try.prog 23 #[.agg #[.bool false, .slice A' n' c']] W (fun e w' => e = .returned (.bool true) ∧ Gr W w') from by have := none_any false A' n' c' (bothL b false L []) W h1; have h := ends1 b L; rw [Bool.and_false] at h; rwa [h] at this)
    have K5 := Lib.hid (fun W => show Calls Try.prog 23 #[.agg #[.bool false, .slice none 0 0]] W (fun e w' => e = .returned (.bool true) ∧ Gr W w') from none_any false none 0 0 [] W (Lib.hid rfl))
    have K6 := Lib.hid (fun W => show Calls Try.prog 23 #[.agg #[.bool true, .slice none 0 0]] W (fun e w' => e = .returned (.bool false) ∧ Gr W w') from none_any true none 0 0 [] W (Lib.hid rfl))
    have S2 := Lib.hid (fun A' n' c' W (h1 : Hid ((bothL b true L []).length = n')) h2 h => show Calls Try.prog 21 #[.agg #[.bool b, .slice A' n' c'], .agg #[.bool b, .slice A n c]] W (fun e w' => e = .returned (.bool true) ∧ Gr W w') from by have := same_any b A' n' c' (bothL b true L []) b A n c L W h1 h2 (by have := h1.out; omega) hn h (by omega); have h := ends2 b L; rw [Bool.and_true] at h; rwa [h] at this)
    have S3 := Lib.hid (fun A' n' c' W (h1 : Hid ((eitherL b false L []).length = n')) h2 h => show Calls Try.prog 21 #[.agg #[.bool b, .slice A' n' c'], .agg #[.bool b, .slice A n c]] W (fun e w' => e = .returned (.bool true) ∧ Gr W w') from by have := same_any b A' n' c' (eitherL b false L []) b A n c L W h1 h2 (by have := h1.out; omega) hn h (by omega); have h := ends3 b L; rw [Bool.or_false] at h; rwa [h] at this)
    have S4 := Lib.hid (fun A' n' c' W (h1 : Hid ((eitherL b true L []).length = n')) h2 => show Calls Try.prog 21 #[.agg #[.bool true, .slice A' n' c'], .agg #[.bool true, .slice none 0 0]] W (fun e w' => e = .returned (.bool true) ∧ Gr W w') from by have := same_any true A' n' c' (eitherL b true L []) true none 0 0 [] W h1 h2 (by have := h1.out; omega) (Lib.hid rfl) (Rd.nil _ _) (by omega); have h := ends4 b L; rw [Bool.or_true] at h; rwa [h] at this)
    have S7 := Lib.hid (fun A' n' c' W (h1 : Hid ((ofL ([] : List Str)).length = n')) h2 => show Calls Try.prog 21 #[.agg #[.bool true, .slice A' n' c'], .agg #[.bool true, .slice none 0 0]] W (fun e w' => e = .returned (.bool true) ∧ Gr W w') from by have := same_any true A' n' c' (ofL []) true none 0 0 [] W h1 h2 (by have := h1.out; omega) (Lib.hid rfl) (Rd.nil _ _) (by omega); have h := ends7; rw [Bool.not_false] at h; rwa [h] at this)
    have S8 := Lib.hid (fun A' n' c' W (h1 : Hid ((eitherL b (!b) L (ofL L)).length = n')) h2 => show Calls Try.prog 21 #[.agg #[.bool true, .slice A' n' c'], .agg #[.bool true, .slice none 0 0]] W (fun e w' => e = .returned (.bool true) ∧ Gr W w') from by have := same_any true A' n' c' (eitherL b (!b) L (ofL L)) true none 0 0 [] W h1 h2 (by have := h1.out; omega) (Lib.hid rfl) (Rd.nil _ _) (by omega); have h := ends8 b L; rw [Bool.or_not_self] at h; rwa [h] at this)
    generalize bothL b false L [] = X1 at *
    generalize bothL b true L [] = X2 at *
    generalize eitherL b false L [] = X3 at *
    generalize eitherL b true L [] = X4 at *
    generalize eitherL b (!b) L (ofL L) = X9 at *
    generalize ofL L = X8 at *
    generalize ofL ([] : List Str) = X7 at *
    clear z1 z2 z3 z4 z7 z8 z9 hr1 hr3 hr4 hrow hrow0 hrow2 hF
    refine Vc.wp_region_facts ⟨Gr, fun _ => Gr, fun _ W => Gr w3 W, []⟩ (by kernel_rfl) (by kernel_rfl) (fun _ _ _ h h' => h'.trans' h) (Gr.draw _) ?_
    repeat
      refine Vc.Walk.pure (v := ?_) (fun _ => Gr.rfl' _) rfl (by first | exact Vc.GuardYes.no rfl | exact Vc.GuardYes.yes rfl rfl) rfl rfl ?_ ?_
      rotate_left
      · intro _ W hI
        (have x1 := hI.g.cell hcA.out.1; have x2 := hI.g.cell hcA.out.2; have x3 := hI.g.cell hc3.out.1; have x4 := hI.g.cell hc3.out.2; have x5 := hI.g.cell hc4.out.1; have x6 := hI.g.cell hc4.out.2; clear hI)
        go_simp
        exact rfl
    refine Vc.Walk.any (.fits (Vc.All (NmV (false) (X1)))) (st_gr (fun _ _ h => h) (fun _ _ _ h => h) NmV.gr) (by first | exact .no rfl | exact .yes rfl rfl) ?_ ?_
    · intro ρ k W hI hf
      obtain ⟨hρ0, hρ1, hρ2, _⟩ := hf
      have hg := hI.g
      have e0 : ρ (.func 19) = .func (.func 19) #[] #[] := hρ0
      have e1 : ρ (.tmp 12) = .agg #[.bool b, .slice A n c] := hρ1
      have e2 : ρ (.tmp 13) = .agg #[.bool false, .slice none 0 0] := hρ2
      clear hI hρ0 hρ1 hρ2
      go_simp
      refine (H1.out _ (hd.gr hg)).mono ?_
      rintro e W' ⟨A', n', c', rfl, hn', hr', h1, h2, hg'⟩
      exact ⟨_, rfl, ⟨_, _, _, rfl, hn', hr', h1, h2⟩, hg'⟩
    refine Vc.Walk.any (.is (.bool true)) trivial (by first | exact .no rfl | exact .yes rfl rfl) ?_ ?_
    · intro ρ k W hI hf
      obtain ⟨hρ0, ⟨A1, n1, c1, hρ1, hn1, hr1, _⟩, _⟩ := hf
      have hg := hI.g
      have e0 : ρ (.func 23) = .func (.func 23) #[] #[] := hρ0
      have e1 : ρ (.tmp 14) = .agg #[.bool (false), .slice A1 n1 c1] := hρ1
      clear hI hρ0 hρ1
      go_simp
      refine (K1.out _ _ c1 _ hn1).mono ?_
      rintro e W' ⟨rfl, hg'⟩
      exact ⟨_, rfl, rfl, hg'⟩
    repeat
      refine Vc.Walk.pure (v := ?_) (fun _ => Gr.rfl' _) rfl (by first | exact Vc.GuardYes.no rfl | exact Vc.GuardYes.yes rfl rfl) rfl rfl ?_ ?_
      rotate_left
      · intro _ W hI
        (have x1 := hI.g.cell hcA.out.1; have x2 := hI.g.cell hcA.out.2; have x3 := hI.g.cell hc3.out.1; have x4 := hI.g.cell hc3.out.2; have x5 := hI.g.cell hc4.out.1; have x6 := hI.g.cell hc4.out.2; clear hI)
        go_simp
        exact rfl
    refine Vc.Walk.any (.fits (Vc.All (NmV (b) (X2)))) (st_gr (fun _ _ h => h) (fun _ _ _ h => h) NmV.gr) (by first | exact .no rfl | exact .yes rfl rfl) ?_ ?_
    · intro ρ k W hI hf
      obtain ⟨hρ0, hρ1, hρ2, _⟩ := hf
      have hg := hI.g
      have e0 : ρ (.func 19) = .func (.func 19) #[] #[] := hρ0
      have e1 : ρ (.tmp 17) = .agg #[.bool b, .slice A n c] := hρ1
      have e2 : ρ (.tmp 18) = .agg #[.bool true, .slice none 0 0] := hρ2
      clear hI hρ0 hρ1 hρ2
      go_simp
      refine (H2.out _ (hd.gr hg)).mono ?_
      rintro e W' ⟨A', n', c', rfl, hn', hr', h1, h2, hg'⟩
      exact ⟨_, rfl, ⟨_, _, _, rfl, hn', hr', h1, h2⟩, hg'⟩
    repeat
      refine Vc.Walk.pure (v := ?_) (fun _ => Gr.rfl' _) rfl (by first | exact Vc.GuardYes.no rfl | exact Vc.GuardYes.yes rfl rfl) rfl rfl ?_ ?_
      rotate_left
      · intro _ W hI
        (have x1 := hI.g.cell hcA.out.1; have x2 := hI.g.cell hcA.out.2; have x3 := hI.g.cell hc3.out.1; have x4 := hI.g.cell hc3.out.2; have x5 := hI.g.cell hc4.out.1; have x6 := hI.g.cell hc4.out.2; clear hI)
        go_simp
        exact rfl
    refine Vc.Walk.any (.is (.bool true)) trivial (by first | exact .no rfl | exact .yes rfl rfl) ?_ ?_
    · intro ρ k W hI hf
      obtain ⟨hρ0, ⟨A1, n1, c1, hρ1, hn1, hr1, _⟩, hρ2, _⟩ := hf
      have hg := hI.g
      have e0 : ρ (.func 21) = .func (.func 21) #[] #[] := hρ0
      have e1 : ρ (.tmp 19) = .agg #[.bool (b), .slice A1 n1 c1] := hρ1
      have e2 : ρ (.tmp 20) = .agg #[.bool b, .slice A n c] := hρ2
      clear hI hρ0 hρ1 hρ2
      go_simp
      refine (S2.out _ _ c1 _ hn1 hr1 (hd.gr hg)).mono ?_
      rintro e W' ⟨rfl, hg'⟩
      exact ⟨_, rfl, rfl, hg'⟩
    repeat
      refine Vc.Walk.pure (v := ?_) (fun _ => Gr.rfl' _) rfl (by first | exact Vc.GuardYes.no rfl | exact Vc.GuardYes.yes rfl rfl) rfl rfl ?_ ?_
      rotate_left
      · intro _ W hI
        (have x1 := hI.g.cell hcA.out.1; have x2 := hI.g.cell hcA.out.2; have x3 := hI.g.cell hc3.out.1; have x4 := hI.g.cell hc3.out.2; have x5 := hI.g.cell hc4.out.1; have x6 := hI.g.cell hc4.out.2; clear hI)
        go_simp
        exact rfl
    refine Vc.Walk.any (.fits (Vc.All (NmV (b) (X3)))) (st_gr (fun _ _ h => h) (fun _ _ _ h => h) NmV.gr) (by first | exact .no rfl | exact .yes rfl rfl) ?_ ?_
    · intro ρ k W hI hf
      obtain ⟨hρ0, hρ1, hρ2, _⟩ := hf
      have hg := hI.g
      have e0 : ρ (.func 20) = .func (.func 20) #[] #[] := hρ0
      have e1 : ρ (.tmp 24) = .agg #[.bool b, .slice A n c] := hρ1
      have e2 : ρ (.tmp 25) = .agg #[.bool false, .slice none 0 0] := hρ2
      clear hI hρ0 hρ1 hρ2
      go_simp
      refine (H3.out _ (hd.gr hg)).mono ?_
      rintro e W' ⟨A', n', c', rfl, hn', hr', h1, h2, hg'⟩
      exact ⟨_, rfl, ⟨_, _, _, rfl, hn', hr', h1, h2⟩, hg'⟩
    repeat
      refine Vc.Walk.pure (v := ?_) (fun _ => Gr.rfl' _) rfl (by first | exact Vc.GuardYes.no rfl | exact Vc.GuardYes.yes rfl rfl) rfl rfl ?_ ?_
      rotate_left
      · intro _ W hI
        (have x1 := hI.g.cell hcA.out.1; have x2 := hI.g.cell hcA.out.2; have x3 := hI.g.cell hc3.out.1; have x4 := hI.g.cell hc3.out.2; have x5 := hI.g.cell hc4.out.1; have x6 := hI.g.cell hc4.out.2; clear hI)
        go_simp
        exact rfl
    refine Vc.Walk.any (.is (.bool true)) trivial (by first | exact .no rfl | exact .yes rfl rfl) ?_ ?_
    · intro ρ k W hI hf
      obtain ⟨hρ0, ⟨A1, n1, c1, hρ1, hn1, hr1, _⟩, hρ2, _⟩ := hf
      have hg := hI.g
      have e0 : ρ (.func 21) = .func (.func 21) #[] #[] := hρ0
      have e1 : ρ (.tmp 26) = .agg #[.bool (b), .slice A1 n1 c1] := hρ1
      have e2 : ρ (.tmp 27) = .agg #[.bool b, .slice A n c] := hρ2
      clear hI hρ0 hρ1 hρ2
      go_simp
      refine (S3.out _ _ c1 _ hn1 hr1 (hd.gr hg)).mono ?_
      rintro e W' ⟨rfl, hg'⟩
      exact ⟨_, rfl, rfl, hg'⟩
    repeat
      refine Vc.Walk.pure (v := ?_) (fun _ => Gr.rfl' _) rfl (by first | exact Vc.GuardYes.no rfl | exact Vc.GuardYes.yes rfl rfl) rfl rfl ?_ ?_
      rotate_left
      · intro _ W hI
        (have x1 := hI.g.cell hcA.out.1; have x2 := hI.g.cell hcA.out.2; have x3 := hI.g.cell hc3.out.1; have x4 := hI.g.cell hc3.out.2; have x5 := hI.g.cell hc4.out.1; have x6 := hI.g.cell hc4.out.2; clear hI)
        go_simp
        exact rfl
    refine Vc.Walk.any (.fits (Vc.All (NmV (true) (X4)))) (st_gr (fun _ _ h => h) (fun _ _ _ h => h) NmV.gr) (by first | exact .no rfl | exact .yes rfl rfl) ?_ ?_
    · intro ρ k W hI hf
      obtain ⟨hρ0, hρ1, hρ2, _⟩ := hf
      have hg := hI.g
      have e0 : ρ (.func 20) = .func (.func 20) #[] #[] := hρ0
      have e1 : ρ (.tmp 31) = .agg #[.bool b, .slice A n c] := hρ1
      have e2 : ρ (.tmp 32) = .agg #[.bool true, .slice none 0 0] := hρ2
      clear hI hρ0 hρ1 hρ2
      go_simp
      refine (H4.out _ (hd.gr hg)).mono ?_
      rintro e W' ⟨A', n', c', rfl, hn', hr', h1, h2, hg'⟩
      exact ⟨_, rfl, ⟨_, _, _, rfl, hn', hr', h1, h2⟩, hg'⟩
    repeat
      refine Vc.Walk.pure (v := ?_) (fun _ => Gr.rfl' _) rfl (by first | exact Vc.GuardYes.no rfl | exact Vc.GuardYes.yes rfl rfl) rfl rfl ?_ ?_
      rotate_left
      · intro _ W hI
        (have x1 := hI.g.cell hcA.out.1; have x2 := hI.g.cell hcA.out.2; have x3 := hI.g.cell hc3.out.1; have x4 := hI.g.cell hc3.out.2; have x5 := hI.g.cell hc4.out.1; have x6 := hI.g.cell hc4.out.2; clear hI)
        go_simp
        exact rfl
    refine Vc.Walk.any (.is (.bool true)) trivial (by first | exact .no rfl | exact .yes rfl rfl) ?_ ?_
    · intro ρ k W hI hf
      obtain ⟨hρ0, ⟨A1, n1, c1, hρ1, hn1, hr1, _⟩, hρ2, _⟩ := hf
      have hg := hI.g
      have e0 : ρ (.func 21) = .func (.func 21) #[] #[] := hρ0
      have e1 : ρ (.tmp 33) = .agg #[.bool (true), .slice A1 n1 c1] := hρ1
      have e2 : ρ (.tmp 34) = .agg #[.bool true, .slice none 0 0] := hρ2
      clear hI hρ0 hρ1 hρ2
      go_simp
      refine (S4.out _ _ c1 _ hn1 hr1).mono ?_
      rintro e W' ⟨rfl, hg'⟩
      exact ⟨_, rfl, rfl, hg'⟩
    repeat
      refine Vc.Walk.pure (v := ?_) (fun _ => Gr.rfl' _) rfl (by first | exact Vc.GuardYes.no rfl | exact Vc.GuardYes.yes rfl rfl) rfl rfl ?_ ?_
      rotate_left
      · intro _ W hI
        (have x1 := hI.g.cell hcA.out.1; have x2 := hI.g.cell hcA.out.2; have x3 := hI.g.cell hc3.out.1; have x4 := hI.g.cell hc3.out.2; have x5 := hI.g.cell hc4.out.1; have x6 := hI.g.cell hc4.out.2; clear hI)
        go_simp
        exact rfl
    refine Vc.Walk.any (.is (.bool true)) trivial (by first | exact .no rfl | exact .yes rfl rfl) ?_ ?_
    · intro ρ k W hI hf
      obtain ⟨hρ0, hρ1, _⟩ := hf
      have hg := hI.g
      have e0 : ρ (.func 23) = .func (.func 23) #[] #[] := hρ0
      have e1 : ρ (.tmp 38) = .agg #[.bool false, .slice none 0 0] := hρ1
      clear hI hρ0 hρ1
      go_simp
      refine (K5.out _).mono ?_
      rintro e W' ⟨rfl, hg'⟩
      exact ⟨_, rfl, rfl, hg'⟩
    repeat
      refine Vc.Walk.pure (v := ?_) (fun _ => Gr.rfl' _) rfl (by first | exact Vc.GuardYes.no rfl | exact Vc.GuardYes.yes rfl rfl) rfl rfl ?_ ?_
      rotate_left
      · intro _ W hI
        (have x1 := hI.g.cell hcA.out.1; have x2 := hI.g.cell hcA.out.2; have x3 := hI.g.cell hc3.out.1; have x4 := hI.g.cell hc3.out.2; have x5 := hI.g.cell hc4.out.1; have x6 := hI.g.cell hc4.out.2; clear hI)
        go_simp
        exact rfl
    refine Vc.Walk.any (.is (.bool false)) trivial (by first | exact .no rfl | exact .yes rfl rfl) ?_ ?_
    · intro ρ k W hI hf
      obtain ⟨hρ0, hρ1, _⟩ := hf
      have hg := hI.g
      have e0 : ρ (.func 23) = .func (.func 23) #[] #[] := hρ0
      have e1 : ρ (.tmp 42) = .agg #[.bool true, .slice none 0 0] := hρ1
      clear hI hρ0 hρ1
      go_simp
      refine (K6.out _).mono ?_
      rintro e W' ⟨rfl, hg'⟩
      exact ⟨_, rfl, rfl, hg'⟩
    repeat
      refine Vc.Walk.pure (v := ?_) (fun _ => Gr.rfl' _) rfl (by first | exact Vc.GuardYes.no rfl | exact Vc.GuardYes.yes rfl rfl) rfl rfl ?_ ?_
      rotate_left
      · intro _ W hI
        (have x1 := hI.g.cell hcA.out.1; have x2 := hI.g.cell hcA.out.2; have x3 := hI.g.cell hc3.out.1; have x4 := hI.g.cell hc3.out.2; have x5 := hI.g.cell hc4.out.1; have x6 := hI.g.cell hc4.out.2; clear hI)
        go_simp
        exact rfl
    refine Vc.Walk.any (.fits (Vc.All (NmV (true) (X7)))) (st_gr (fun _ _ h => h) (fun _ _ _ h => h) NmV.gr) (by first | exact .no rfl | exact .yes rfl rfl) ?_ ?_
    · intro ρ k W hI hf
      obtain ⟨hρ0, hρ1, _⟩ := hf
      have hg := hI.g
      have e0 : ρ (.func 16) = .func (.func 16) #[] #[] := hρ0
      have e1 : ρ (.tmp 47) = .agg #[.bool false, .slice none 0 0] := hρ1
      clear hI hρ0 hρ1
      go_simp
      refine (H7.out _).mono ?_
      rintro e W' ⟨A', n', c', rfl, hn', hr', h1, h2, hg'⟩
      exact ⟨_, rfl, ⟨_, _, _, rfl, hn', hr', h1, h2⟩, hg'⟩
    repeat
      refine Vc.Walk.pure (v := ?_) (fun _ => Gr.rfl' _) rfl (by first | exact Vc.GuardYes.no rfl | exact Vc.GuardYes.yes rfl rfl) rfl rfl ?_ ?_
      rotate_left
      · intro _ W hI
        (have x1 := hI.g.cell hcA.out.1; have x2 := hI.g.cell hcA.out.2; have x3 := hI.g.cell hc3.out.1; have x4 := hI.g.cell hc3.out.2; have x5 := hI.g.cell hc4.out.1; have x6 := hI.g.cell hc4.out.2; clear hI)
        go_simp
        exact rfl
    refine Vc.Walk.any (.is (.bool true)) trivial (by first | exact .no rfl | exact .yes rfl rfl) ?_ ?_
    · intro ρ k W hI hf
      obtain ⟨hρ0, ⟨A1, n1, c1, hρ1, hn1, hr1, _⟩, hρ2, _⟩ := hf
      have hg := hI.g
      have e0 : ρ (.func 21) = .func (.func 21) #[] #[] := hρ0
      have e1 : ρ (.tmp 48) = .agg #[.bool (true), .slice A1 n1 c1] := hρ1
      have e2 : ρ (.tmp 49) = .agg #[.bool true, .slice none 0 0] := hρ2
      clear hI hρ0 hρ1 hρ2
      go_simp
      refine (S7.out _ _ c1 _ hn1 hr1).mono ?_
      rintro e W' ⟨rfl, hg'⟩
      exact ⟨_, rfl, rfl, hg'⟩
    repeat
      refine Vc.Walk.pure (v := ?_) (fun _ => Gr.rfl' _) rfl (by first | exact Vc.GuardYes.no rfl | exact Vc.GuardYes.yes rfl rfl) rfl rfl ?_ ?_
      rotate_left
      · intro _ W hI
        (have x1 := hI.g.cell hcA.out.1; have x2 := hI.g.cell hcA.out.2; have x3 := hI.g.cell hc3.out.1; have x4 := hI.g.cell hc3.out.2; have x5 := hI.g.cell hc4.out.1; have x6 := hI.g.cell hc4.out.2; clear hI)
        go_simp
        exact rfl
    refine Vc.Walk.any (.fits (Vc.All (NmV ((!b)) (X8)))) (st_gr (fun _ _ h => h) (fun _ _ _ h => h) NmV.gr) (by first | exact .no rfl | exact .yes rfl rfl) ?_ ?_
    · intro ρ k W hI hf
      obtain ⟨hρ0, hρ1, _⟩ := hf
      have hg := hI.g
      have e0 : ρ (.func 16) = .func (.func 16) #[] #[] := hρ0
      have e1 : ρ (.tmp 54) = .agg #[.bool b, .slice A n c] := hρ1
      clear hI hρ0 hρ1
      go_simp
      refine (H8.out _ (hd.gr hg)).mono ?_
      rintro e W' ⟨A', n', c', rfl, hn', hr', h1, h2, hg'⟩
      exact ⟨_, rfl, ⟨_, _, _, rfl, hn', hr', h1, h2⟩, hg'⟩
    refine Vc.Walk.any (.fits (Vc.All (NmV (true) (X9)))) (st_gr (fun _ _ h => h) (fun _ _ _ h => h) NmV.gr) (by first | exact .no rfl | exact .yes rfl rfl) ?_ ?_
    · intro ρ k W hI hf
      obtain ⟨hρ0, hρ1, ⟨A2, n2, c2, hρ2, hn2, hr2, _⟩, _⟩ := hf
      have hg := hI.g
      have e0 : ρ (.func 20) = .func (.func 20) #[] #[] := hρ0
      have e1 : ρ (.tmp 53) = .agg #[.bool b, .slice A n c] := hρ1
      have e2 : ρ (.tmp 55) = .agg #[.bool ((!b)), .slice A2 n2 c2] := hρ2
      clear hI hρ0 hρ1 hρ2
      go_simp
      refine (H9.out _ _ c2 _ (hd.gr hg) hn2 hr2).mono ?_
      rintro e W' ⟨A', n', c', rfl, hn', hr', h1, h2, hg'⟩
      exact ⟨_, rfl, ⟨_, _, _, rfl, hn', hr', h1, h2⟩, hg'⟩
    repeat
      refine Vc.Walk.pure (v := ?_) (fun _ => Gr.rfl' _) rfl (by first | exact Vc.GuardYes.no rfl | exact Vc.GuardYes.yes rfl rfl) rfl rfl ?_ ?_
      rotate_left
      · intro _ W hI
        (have x1 := hI.g.cell hcA.out.1; have x2 := hI.g.cell hcA.out.2; have x3 := hI.g.cell hc3.out.1; have x4 := hI.g.cell hc3.out.2; have x5 := hI.g.cell hc4.out.1; have x6 := hI.g.cell hc4.out.2; clear hI)
        go_simp
        exact rfl
    refine Vc.Walk.any (.is (.bool true)) trivial (by first | exact .no rfl | exact .yes rfl rfl) ?_ ?_
    · intro ρ k W hI hf
      obtain ⟨hρ0, ⟨A1, n1, c1, hρ1, hn1, hr1, _⟩, hρ2, _⟩ := hf
      have hg := hI.g
      have e0 : ρ (.func 21) = .func (.func 21) #[] #[] := hρ0
      have e1 : ρ (.tmp 56) = .agg #[.bool (true), .slice A1 n1 c1] := hρ1
      have e2 : ρ (.tmp 57) = .agg #[.bool true, .slice none 0 0] := hρ2
      clear hI hρ0 hρ1 hρ2
      go_simp
      refine (S8.out _ _ c1 _ hn1 hr1).mono ?_
      rintro e W' ⟨rfl, hg'⟩
      exact ⟨_, rfl, rfl, hg'⟩
    repeat
      refine Vc.Walk.pure (v := ?_) (fun _ => Gr.rfl' _) rfl (by first | exact Vc.GuardYes.no rfl | exact Vc.GuardYes.yes rfl rfl) rfl rfl ?_ ?_
      rotate_left
      · intro _ W hI
        (have x1 := hI.g.cell hcA.out.1; have x2 := hI.g.cell hcA.out.2; have x3 := hI.g.cell hc3.out.1; have x4 := hI.g.cell hc3.out.2; have x5 := hI.g.cell hc4.out.1; have x6 := hI.g.cell hc4.out.2; clear hI)
        go_simp
        exact rfl
    intro W hW
    have hW : Gr w3 W := hW
    simp only [List.reverse_cons, List.reverse_nil, List.nil_append, List.cons_append, Vc.finish, Act.put, List.setIfInBounds_toArray, List.set_cons_zero, List.set_cons_succ]
    intro u14 _ u19 _ u26 _ u33 _ u48 _ u55 _ u56 _
    go_wp2_with fail
    go_ret
    exact ⟨rfl, hG3.trans' hW⟩
  · rw [decide_eq_false h25] at hF
    go_enter Try.func5, Try.ntmps5
    go_wp2_with (first
      | (go_at_call 8; refine (known3_any _).mono ?_; rintro e w1 ⟨rfl, hg1⟩
         have hrow := hrow0.gr hg1
         have hc0 : w1.cell? ⟨w.heap.size, 0, none⟩ = some (.bool b) := hrow.cell 0
         have hc1 : w1.cell? ⟨w.heap.size, 1, none⟩ = some (.slice A n c) := hrow.cell 1)
      | (go_at_call 10; (with_reducible refine (hF.out _).mono ?_); rintro e w2 ⟨rfl, hg2⟩))
    go_ret
    exact ⟨rfl, (hg0.trans' hg1).trans' hg2⟩
end Go.Proofs.Ytbjkfllghkcgcaa.namesEnds
