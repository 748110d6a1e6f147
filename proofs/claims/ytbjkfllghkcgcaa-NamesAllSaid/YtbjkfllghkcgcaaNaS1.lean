/- Package cadenceref3: Same, None. -/
import Derived.Test.YtbjkfllghkcgcaaNaR1
set_option linter.unusedVariables false
set_option linter.unusedSimpArgs false
namespace Go.Proofs.Ytbjkfllghkcgcaa
open Go.RowKit Go.Sort

attribute [local go_sem] Vc.known_tmp Vc.known_const Vc.known_func Vc.known_global Vc.lk Vc.okUpon Vc.Fact.holds

theorem xnone_any (b : Bool) (A : Option Addr) (n c : Nat) (L : List Str) (w : World) (hn : Hid (L.length = n)) :
    Calls Try.prog 28 #[.agg #[.bool b, .slice A n c]] w fun e w' => e = .returned (.bool (noneL b L)) ∧ Gr w w' := by
  unfold noneL
  rw [hn.out]
  have hg1 := (new1 w 25 [.bool b, .slice A n c]).2
  by_cases h0 : n = 0
  · subst h0
    cases b
    all_goals
      go_enter Try.func28, Try.ntmps28
      go_wp2_with fail
      go_ret
      exact ⟨rfl, hg1⟩
  · have hf : decide (n = 0) = false := by simpa using h0
    rw [hf]
    cases b
    all_goals
      go_enter Try.func28, Try.ntmps28
      go_wp2_with fail
      go_ret
      exact ⟨by first | rfl | (simp; omega) | simp, hg1⟩

theorem same_no {b1 b2 : Bool} {L1 L2 : List Str} {s : Str} (h1 : s ∈ L1) (h2 : s ∉ L2) : sameL b1 b2 L1 L2 = false := by
  unfold sameL
  have : ¬ ofL L1 = ofL L2 := fun h => h2 ((ofL_eq.1 h s).1 h1)
  rw [decide_eq_false this, Bool.and_false]
theorem same_no' {b1 b2 : Bool} {L1 L2 : List Str} {s : Str} (h1 : s ∈ L2) (h2 : s ∉ L1) : sameL b1 b2 L1 L2 = false := by
  unfold sameL
  have : ¬ ofL L1 = ofL L2 := fun h => h2 ((ofL_eq.1 h s).2 h1)
  rw [decide_eq_false this, Bool.and_false]
theorem same_yes {b : Bool} {L1 L2 : List Str} (h1 : ∀ s ∈ L1, s ∈ L2) (h2 : ∀ s ∈ L2, s ∈ L1) : sameL b b L1 L2 = true := by
  unfold sameL
  rw [decide_eq_true (ofL_eq.2 fun s => ⟨h1 s, h2 s⟩)]
  simp

set_option maxRecDepth 20000 in
set_option maxHeartbeats 8000000 in
theorem xsame_any (b1 : Bool) (A1 : Option Addr) (n1 c1 : Nat) (L1 : List Str) (b2 : Bool) (A2 : Option Addr) (n2 c2 : Nat) (L2 : List Str) (w : World) (hn1 : Hid (L1.length = n1)) (hr1 : Rd w A1 (L1.map encStr)) (hl1 : n1 ≤ 100000)
    (hn2 : Hid (L2.length = n2)) (hr2 : Rd w A2 (L2.map encStr)) (hl2 : n2 ≤ 100000) :
    Calls Try.prog 27 #[.agg #[.bool b1, .slice A1 n1 c1], .agg #[.bool b2, .slice A2 n2 c2]] w fun e w' => e = .returned (.bool (sameL b1 b2 L1 L2)) ∧ Gr w w' := by
  have HI1 := Lib.hid (fun s W h => xin_any A1 n1 c1 L1 s W hn1 h (by omega))
  have HI2 := Lib.hid (fun s W h => xin_any A2 n2 c2 L2 s W hn2 h (by omega))
  obtain ⟨hb1, hb2, hg1⟩ := new2 w 25 25 [.bool b1, .slice A1 n1 c1] [.bool b2, .slice A2 n2 c2]
  by_cases hb : b1 = b2
  case neg =>
    have hs : sameL b1 b2 L1 L2 = false := by unfold sameL; rw [show (b1 == b2) = false by simpa using hb]; rfl
    rw [hs]
    clear hs
    have hb' : (b1 == b2) = false := by simpa using hb
    clear hb
    go_enter Try.func27, Try.ntmps27
    go_wp2_with fail
    go_ret
    exact ⟨rfl, hg1⟩
  subst hb
  go_enter Try.func27, Try.ntmps27
  go_wp2_with fail
  generalize (w.alloc (.cells #[.bool b1, .slice A1 n1 c1] 25)).alloc (.cells #[.bool b1, .slice A2 n2 c2] 25) = w1 at *
  have hd1 := hr1.gr hg1
  have hd2 := hr2.gr hg1
  have j1 := Lib.hid (show w1.cell? ⟨w.heap.size, 1, none⟩ = some (.slice A1 n1 c1) from hb1.cell 1)
  have j2 := Lib.hid (show w1.cell? ⟨w.heap.size + 1, 1, none⟩ = some (.slice A2 n2 c2) from hb2.cell 1)
  clear hb1 hb2 hr1 hr2
  go_loopw [5] (fun i wr => ∃ j : Nat, j ≤ n1 ∧ i = .int .i64 j ∧ Hid (∀ i (h : i < L1.length), i < j → L1[i] ∈ L2) ∧ Gr w1 wr) (fun i _ => n1 - (intOf i).toNat)
  case atStart => exact ⟨0, by omega, rfl, Lib.hid (fun i h h' => absurd h' (by omega)), Gr.rfl' _⟩
  case round =>
    obtain ⟨j, hj, rfl, hall, hb⟩ := hrel
    have y1 := hb.cell j1.out
    by_cases hlt : j < n1
    · have hjl : j < L1.length := by have := hn1.out; omega
      obtain ⟨ad, rfl, hx⟩ := hd1.at_ (k := j) (by simpa using hjl)
      simp only [List.getElem_map] at hx
      have kx := Lib.hid (hb.cell hx)
      have KI := Lib.hid (HI2.out L1[j])
      by_cases hm : L1[j] ∈ L2
      · rw [decide_eq_true hm] at KI
        have hall2 := Lib.hid (show ∀ i (h : i < L1.length), i < j + 1 → L1[i] ∈ L2 from fun i h h' => by
          by_cases e : i = j
          · subst e; exact hm
          · exact hall.out i h (by omega))
        clear hm hx
        generalize L1[j] = x at *
        go_wp2_with fail
        clear y1
        refine Vc.wp_region_facts ⟨Gr, fun _ => Gr, fun _ V => Gr wr V, []⟩ (by kernel_rfl) (by kernel_rfl) (fun _ _ _ h h' => h'.trans' h) (Gr.draw _) ?_
        repeat
          refine Vc.Walk.pure (v := ?_) (fun _ => Gr.rfl' _) rfl (by first | exact Vc.GuardYes.no rfl | exact Vc.GuardYes.yes rfl rfl) rfl rfl ?_ ?_
          rotate_left
          · intro _ W hI
            (have q := hI.g; clear hI; have y0 := q.cell kx.out; have q := hb.trans' q; have y1 := q.cell j1.out; have y2 := q.cell j2.out; clear q)
            go_simp
            exact rfl
        refine Vc.Walk.any (.is (.bool true)) trivial (by first | exact .no rfl | exact .yes rfl rfl) ?_ ?_
        · intro ρ k W hI hf
          obtain ⟨hρ0, hρ1, hρ2, _⟩ := hf
          have hg := hI.g
          have e0 : ρ (.func 41) = .func (.func 41) #[] #[] := hρ0
          have e1 : ρ (.tmp 20) = .slice A2 n2 c2 := hρ1
          have e2 : ρ (.tmp 25) = encStr x := hρ2
          clear hI hρ0 hρ1 hρ2
          go_simp
          refine (KI.out _ (hd2.gr (hb.trans' hg))).mono ?_
          rintro e W' ⟨rfl, hg'⟩
          exact ⟨_, rfl, rfl, hg'⟩
        repeat
          refine Vc.Walk.pure (v := ?_) (fun _ => Gr.rfl' _) rfl (by first | exact Vc.GuardYes.no rfl | exact Vc.GuardYes.yes rfl rfl) rfl rfl ?_ ?_
          rotate_left
          · intro _ W hI
            (clear hI)
            go_simp
            exact rfl
        intro V hV
        have hV : Gr wr V := hV
        simp only [List.reverse_cons, List.reverse_nil, List.nil_append, List.cons_append, Vc.finish, Act.put, List.setIfInBounds_toArray, List.set_cons_zero, List.set_cons_succ]
        go_wp2_with fail
        go_roundw
        case rel => exact ⟨j + 1, by omega, by go_num, hall2, hb.trans' hV⟩
        case measure => simp [intOf]; omega
      · rw [decide_eq_false hm] at KI
        have hsn := Lib.hid (same_no (b1 := b1) (b2 := b1) (List.getElem_mem hjl) hm)
        clear hm hx
        generalize L1[j] = x at *
        go_wp2_with fail
        clear y1
        refine Vc.wp_region_facts ⟨Gr, fun _ => Gr, fun _ V => Gr wr V, []⟩ (by kernel_rfl) (by kernel_rfl) (fun _ _ _ h h' => h'.trans' h) (Gr.draw _) ?_
        repeat
          refine Vc.Walk.pure (v := ?_) (fun _ => Gr.rfl' _) rfl (by first | exact Vc.GuardYes.no rfl | exact Vc.GuardYes.yes rfl rfl) rfl rfl ?_ ?_
          rotate_left
          · intro _ W hI
            (have q := hI.g; clear hI; have y0 := q.cell kx.out; have q := hb.trans' q; have y1 := q.cell j1.out; have y2 := q.cell j2.out; clear q)
            go_simp
            exact rfl
        refine Vc.Walk.any (.is (.bool false)) trivial (by first | exact .no rfl | exact .yes rfl rfl) ?_ ?_
        · intro ρ k W hI hf
          obtain ⟨hρ0, hρ1, hρ2, _⟩ := hf
          have hg := hI.g
          have e0 : ρ (.func 41) = .func (.func 41) #[] #[] := hρ0
          have e1 : ρ (.tmp 20) = .slice A2 n2 c2 := hρ1
          have e2 : ρ (.tmp 25) = encStr x := hρ2
          clear hI hρ0 hρ1 hρ2
          go_simp
          refine (KI.out _ (hd2.gr (hb.trans' hg))).mono ?_
          rintro e W' ⟨rfl, hg'⟩
          exact ⟨_, rfl, rfl, hg'⟩
        repeat
          refine Vc.Walk.pure (v := ?_) (fun _ => Gr.rfl' _) rfl (by first | exact Vc.GuardYes.no rfl | exact Vc.GuardYes.yes rfl rfl) rfl rfl ?_ ?_
          rotate_left
          · intro _ W hI
            (clear hI)
            go_simp
            exact rfl
        intro V hV
        have hV : Gr wr V := hV
        simp only [List.reverse_cons, List.reverse_nil, List.nil_append, List.cons_append, Vc.finish, Act.put, List.setIfInBounds_toArray, List.set_cons_zero, List.set_cons_succ]
        go_wp2_with fail
        go_ret
        exact ⟨by rw [hsn.out]; rfl, (hg1.trans' hb).trans' hV⟩
    · obtain rfl : j = n1 := by omega
      have hfst := Lib.hid (show ∀ s ∈ L1, s ∈ L2 from fun s hs => by
        obtain ⟨i, hi, rfl⟩ := List.getElem_of_mem hs
        exact hall.out i hi (by have := hn1.out; omega))
      go_wp2_with fail
      clear y1
      go_loopw [6] (fun i wq => ∃ j : Nat, j ≤ n2 ∧ i = .int .i64 j ∧ Hid (∀ i (h : i < L2.length), i < j → L2[i] ∈ L1) ∧ Gr w1 wq) (fun i _ => n2 - (intOf i).toNat)
      case atStart => exact ⟨0, by omega, rfl, Lib.hid (fun i h h' => absurd h' (by omega)), hb⟩
      case round =>
        clear hall hb
        obtain ⟨k, hk, rfl, hall, hb⟩ := hrel
        have y1 := hb.cell j2.out
        by_cases hlt2 : k < n2
        · have hjl : k < L2.length := by have := hn2.out; omega
          obtain ⟨ad, rfl, hx⟩ := hd2.at_ (k := k) (by simpa using hjl)
          simp only [List.getElem_map] at hx
          have kx := Lib.hid (hb.cell hx)
          have KI := Lib.hid (HI1.out L2[k])
          by_cases hm : L2[k] ∈ L1
          · rw [decide_eq_true hm] at KI
            have hall2 := Lib.hid (show ∀ i (h : i < L2.length), i < k + 1 → L2[i] ∈ L1 from fun i h h' => by
              by_cases e : i = k
              · subst e; exact hm
              · exact hall.out i h (by omega))
            clear hm hx
            generalize L2[k] = x at *
            go_wp2_with fail
            clear y1
            refine Vc.wp_region_facts ⟨Gr, fun _ => Gr, fun _ V => Gr wr V, []⟩ (by kernel_rfl) (by kernel_rfl) (fun _ _ _ h h' => h'.trans' h) (Gr.draw _) ?_
            repeat
              refine Vc.Walk.pure (v := ?_) (fun _ => Gr.rfl' _) rfl (by first | exact Vc.GuardYes.no rfl | exact Vc.GuardYes.yes rfl rfl) rfl rfl ?_ ?_
              rotate_left
              · intro _ W hI
                (have q := hI.g; clear hI; have y0 := q.cell kx.out; have q := hb.trans' q; have y1 := q.cell j1.out; have y2 := q.cell j2.out; clear q)
                go_simp
                exact rfl
            refine Vc.Walk.any (.is (.bool true)) trivial (by first | exact .no rfl | exact .yes rfl rfl) ?_ ?_
            · intro ρ k W hI hf
              obtain ⟨hρ0, hρ1, hρ2, _⟩ := hf
              have hg := hI.g
              have e0 : ρ (.func 41) = .func (.func 41) #[] #[] := hρ0
              have e1 : ρ (.tmp 36) = .slice A1 j c1 := hρ1
              have e2 : ρ (.tmp 41) = encStr x := hρ2
              clear hI hρ0 hρ1 hρ2
              go_simp
              refine (KI.out _ (hd1.gr (hb.trans' hg))).mono ?_
              rintro e W' ⟨rfl, hg'⟩
              exact ⟨_, rfl, rfl, hg'⟩
            repeat
              refine Vc.Walk.pure (v := ?_) (fun _ => Gr.rfl' _) rfl (by first | exact Vc.GuardYes.no rfl | exact Vc.GuardYes.yes rfl rfl) rfl rfl ?_ ?_
              rotate_left
              · intro _ W hI
                (clear hI)
                go_simp
                exact rfl
            intro V hV
            have hV : Gr wr V := hV
            simp only [List.reverse_cons, List.reverse_nil, List.nil_append, List.cons_append, Vc.finish, Act.put, List.setIfInBounds_toArray, List.set_cons_zero, List.set_cons_succ]
            go_wp2_with fail
            go_roundw
            case rel => exact ⟨k + 1, by omega, by go_num, hall2, hb.trans' hV⟩
            case measure => simp [intOf]; omega
          · rw [decide_eq_false hm] at KI
            have hsn := Lib.hid (same_no' (b1 := b1) (b2 := b1) (List.getElem_mem hjl) hm)
            clear hm hx
            generalize L2[k] = x at *
            go_wp2_with fail
            clear y1
            refine Vc.wp_region_facts ⟨Gr, fun _ => Gr, fun _ V => Gr wr V, []⟩ (by kernel_rfl) (by kernel_rfl) (fun _ _ _ h h' => h'.trans' h) (Gr.draw _) ?_
            repeat
              refine Vc.Walk.pure (v := ?_) (fun _ => Gr.rfl' _) rfl (by first | exact Vc.GuardYes.no rfl | exact Vc.GuardYes.yes rfl rfl) rfl rfl ?_ ?_
              rotate_left
              · intro _ W hI
                (have q := hI.g; clear hI; have y0 := q.cell kx.out; have q := hb.trans' q; have y1 := q.cell j1.out; have y2 := q.cell j2.out; clear q)
                go_simp
                exact rfl
            refine Vc.Walk.any (.is (.bool false)) trivial (by first | exact .no rfl | exact .yes rfl rfl) ?_ ?_
            · intro ρ k W hI hf
              obtain ⟨hρ0, hρ1, hρ2, _⟩ := hf
              have hg := hI.g
              have e0 : ρ (.func 41) = .func (.func 41) #[] #[] := hρ0
              have e1 : ρ (.tmp 36) = .slice A1 j c1 := hρ1
              have e2 : ρ (.tmp 41) = encStr x := hρ2
              clear hI hρ0 hρ1 hρ2
              go_simp
              refine (KI.out _ (hd1.gr (hb.trans' hg))).mono ?_
              rintro e W' ⟨rfl, hg'⟩
              exact ⟨_, rfl, rfl, hg'⟩
            repeat
              refine Vc.Walk.pure (v := ?_) (fun _ => Gr.rfl' _) rfl (by first | exact Vc.GuardYes.no rfl | exact Vc.GuardYes.yes rfl rfl) rfl rfl ?_ ?_
              rotate_left
              · intro _ W hI
                (clear hI)
                go_simp
                exact rfl
            intro V hV
            have hV : Gr wr V := hV
            simp only [List.reverse_cons, List.reverse_nil, List.nil_append, List.cons_append, Vc.finish, Act.put, List.setIfInBounds_toArray, List.set_cons_zero, List.set_cons_succ]
            go_wp2_with fail
            go_ret
            exact ⟨by rw [hsn.out]; rfl, (hg1.trans' hb).trans' hV⟩
        · obtain rfl : k = n2 := by omega
          have hsy := Lib.hid (same_yes (b := b1) hfst.out (fun s hs => by
            obtain ⟨i, hi, rfl⟩ := List.getElem_of_mem hs
            exact hall.out i hi (by have := hn2.out; omega)))
          go_wp2_with fail
          go_ret
          exact ⟨by rw [hsy.out]; rfl, hg1.trans' hb⟩
end Go.Proofs.Ytbjkfllghkcgcaa
