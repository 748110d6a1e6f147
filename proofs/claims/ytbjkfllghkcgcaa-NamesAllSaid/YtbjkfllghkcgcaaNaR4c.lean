/- Package cadenceref3: pick. -/
import Derived.Test.YtbjkfllghkcgcaaNaR4p
set_option linter.unusedVariables false
set_option linter.unusedSimpArgs false
namespace Go.Proofs.Ytbjkfllghkcgcaa
open Go.RowKit Go.Sort

attribute [local go_sem] Vc.known_tmp Vc.known_const Vc.known_func Vc.known_global Vc.lk Vc.okUpon Vc.Fact.holds

set_option maxRecDepth 20000 in
set_option maxHeartbeats 16000000 in
theorem pick_false_true (A1 : Option Addr) (n1 c1 : Nat) (L1 : List Str) (b2 : Bool) (A2 : Option Addr) (n2 c2 : Nat) (L2 : List Str) (w : World) (hn1 : Hid (L1.length = n1)) (hr1 : Rd w A1 (L1.map encStr)) (hl1 : n1 ≤ 1000)
    (hn2 : Hid (L2.length = n2)) (hr2 : Rd w A2 (L2.map encStr)) (hl2 : n2 ≤ 1000) :
    Calls Try.prog 39 #[.agg #[.bool true, .slice A1 n1 c1], .agg #[.bool b2, .slice A2 n2 c2], .bool false] w (NmB w (pickF false true b2) (ofL (pickR false true b2 L1 L2 (L1 ++ L2)))) := by
  obtain ⟨i0, hi, hz0, hz1, hz2⟩ := info_parts info_str
  have HH1 := Lib.hid (fun s W h => xhas_any true A1 n1 c1 L1 s W hn1 h (by omega))
  have HH2 := Lib.hid (fun s W h => xhas_any b2 A2 n2 c2 L2 s W hn2 h (by omega))
  obtain ⟨f, hf⟩ : ∃ f, f = pickF false true b2 := ⟨_, rfl⟩
  obtain ⟨R, hR⟩ : ∃ R : List Str → List Str, R = pickR false true b2 L1 L2 := ⟨_, rfl⟩
  have hR0 : R [] = [] := by rw [hR]; rfl
  have hRl : ∀ M, (R M).length ≤ M.length := fun M => by rw [hR]; exact pickR_length
  have hRs : ∀ (M : List Str) (j : Nat) (h : j < M.length), R (M.take (j + 1)) = R (M.take j) ++ (if (if false then isIn true L1 M[j] && isIn b2 L2 M[j] else isIn true L1 M[j] || isIn b2 L2 M[j]) != f then [M[j]] else []) := fun M j h => by
    rw [hR, hf, pickR_snoc h]
    rfl
  rw [← hf, ← hR]
  clear hR
  have hMl : (L1 ++ L2).length = n1 + n2 := by rw [List.length_append, hn1.out, hn2.out]
  have hM2 := Lib.hid (show L1.map encStr ++ L2.map encStr = (L1 ++ L2).map encStr by rw [List.map_append])
  replace hR0 := Lib.hid hR0
  replace hRl := Lib.hid hRl
  replace hRs := Lib.hid hRs
  generalize isIn true L1 = I1 at *
  generalize isIn b2 L2 = I2 at *
  generalize L1 ++ L2 = M at *
  obtain ⟨hrow, hrow2, hres, hg3⟩ := new3 w 25 25 25 [.bool true, .slice A1 n1 c1] [.bool b2, .slice A2 n2 c2] [.bool false, .slice none 0 0]
  have hacc := Row.new (((w.alloc (.cells #[.bool true, .slice A1 n1 c1] 25)).alloc (.cells #[.bool b2, .slice A2 n2 c2] 25)).alloc (.cells #[.bool false, .slice none 0 0] 25)) 25 [.bool f, .slice none 0 0]
  have hgd := Gr.alloc1 (((w.alloc (.cells #[.bool true, .slice A1 n1 c1] 25)).alloc (.cells #[.bool b2, .slice A2 n2 c2] 25)).alloc (.cells #[.bool false, .slice none 0 0] 25)) (.cells #[.bool f, .slice none 0 0] 25)
  have hz : (((w.alloc (.cells #[.bool true, .slice A1 n1 c1] 25)).alloc (.cells #[.bool b2, .slice A2 n2 c2] 25)).alloc (.cells #[.bool false, .slice none 0 0] 25)).heap.size = w.heap.size + 1 + 1 + 1 := by simp
  rw [hz] at hacc
  replace hrow := hrow.gr hgd
  replace hrow2 := hrow2.gr hgd
  replace hres := hres.gr hgd
  replace hg3 := hg3.trans' hgd
  clear hgd hz
  go_enter Try.func39, Try.ntmps39
  cases b2
  all_goals
    go_wp2_with fail
    first | obtain rfl : f = true := hf | obtain rfl : f = false := hf
    generalize (((w.alloc (.cells #[.bool _, .slice A1 n1 c1] 25)).alloc (.cells #[.bool _, .slice A2 n2 c2] 25)).alloc (.cells #[.bool false, .slice none 0 0] 25)).alloc (.cells #[.bool _, .slice none 0 0] 25) = w1 at *
    have hlt := hacc.lt
    have k1 := Lib.hid (And.intro (hrow.cell 0) (hrow.cell 1))
    have k2 := Lib.hid (And.intro (hrow2.cell 0) (hrow2.cell 1))
    simp only [List.getElem?_cons_zero, List.getElem?_cons_succ] at k1 k2
    have hd1 := hr1.gr hg3
    have hd2 := hr2.gr hg3
    refine Vc.wp_region_split ⟨Gr, fun _ W W' => ∃ A, (∀ g, blkOf A = some g → w1.heap.size ≤ g) ∧ W.grownBy W' (blkOf A), fun _ W => Gr w1 W, [3]⟩ 6 [] (by kernel_rfl) (by kernel_rfl) (by kernel_rfl) (by decide) (by simp) (by simp) (by simp) (fun _ _ h => h.size) (fun _ _ _ ⟨_, _, h⟩ => h.size) (fun _ _ _ h h' => h'.trans' h) (Gr.draw _) ?_
    refine Vc.Walk.call (.fits (Vc.At 0 fun v W => ∃ g, v = .slice (some ⟨g, 0, none⟩) 0 0 ∧ Own W w1.heap.size 9 1 (some ⟨g, 0, none⟩) 0 0 [])) (Vc.At.stable (fun u W W' hl hf => by obtain ⟨g, e, h⟩ := hf; exact ⟨g, e, h.gr hl⟩)) (.no rfl) rfl rfl ?_ ?_
    · intro k W hI
      have hk := hI.le 0 3 rfl (by kernel_rfl)
      obtain rfl : k = 0 := by omega
      have hg := hI.g
      clear hI
      have hgs := hg.size
      go_simp
      exact ⟨⟨Nat.le_refl _, fun _ => ⟨_, rfl, (Own.empty W _ _).more (fun g hg => by cases hg; exact hgs)⟩⟩, Gr.alloc1 _ _⟩
    repeat
      refine Vc.Walk.pure (v := ?_) (fun _ => Gr.rfl' _) rfl (by first | exact Vc.GuardYes.no rfl | exact Vc.GuardYes.yes rfl rfl) rfl rfl ?_ ?_
      rotate_left
      · intro _ W hI
        (have q := hI.g; clear hI; have y1 := q.cell k1.out.2; have y3 := q.cell k2.out.2; clear q)
        go_simp
        exact rfl
    refine Vc.Walk.any (.fits (Vc.At 1 fun v W => ∃ A3 c3, v = .slice A3 n1 c3 ∧ Own W w1.heap.size 9 1 A3 n1 c3 (L1.map encStr))) (Vc.At.stable (fun u W W' hl hf => by obtain ⟨A3, c3, e, h⟩ := hf; exact ⟨A3, c3, e, h.gr hl⟩)) (.no rfl) ?_ ?_
    · intro ρ k W hI hf
      obtain rfl := hI.eq 0 rfl
      have hg := hI.g
      obtain ⟨⟨_, hf1⟩, hρ2, _⟩ := hf
      obtain ⟨g, hρ1, ho⟩ := hf1 (Nat.le_refl _)
      have e1 : ρ (.tmp 27) = .slice (some ⟨g, 0, none⟩) 0 0 := hρ1
      have e2 : ρ (.tmp 29) = .slice A1 n1 c1 := hρ2
      obtain ⟨A3, c3, W', hrun, ho3, hk3⟩ := run_append (P := Try.prog) W w1.heap.size 23 23 9 i0 _ 1 16 Try.underlying23 hi hz0 hz1 hz2 rfl (by omega) (some ⟨g, 0, none⟩) 0 0 [] ho A1 n1 c1 (L1.map encStr) (by have := hn1.out; simpa using this) (hd1.gr hg) (enc_one _) (by omega) (by unfold maxLen; omega) hg.size
      rw [Nat.zero_add] at hrun ho3
      rw [List.nil_append] at ho3
      have hbl : ∀ g', blkOf (some ⟨g, 0, none⟩) = some g' → w1.heap.size ≤ g' := fun g' h' => (ho.blk g' h').1
      clear hI hf1 hρ1 hρ2
      unfold execOp
      simp only [resolve, invoke, builtin, Sem.run_bind, Sem.run_pure, Result.andThen_ok, List.map_toArray, List.map_cons, List.map_nil, e1, e2, hrun, Vc.okUpon]
      exact ⟨⟨Nat.le_refl _, fun _ => ⟨_, _, rfl, ho3⟩⟩, ⟨_, hbl, hk3.grown⟩, hg.grownB hk3.grown hbl⟩
    repeat
      refine Vc.Walk.pure (v := ?_) (fun _ => Gr.rfl' _) rfl (by first | exact Vc.GuardYes.no rfl | exact Vc.GuardYes.yes rfl rfl) rfl rfl ?_ ?_
      rotate_left
      · intro _ W hI
        (have q := hI.g; clear hI; have y1 := q.cell k1.out.2; have y3 := q.cell k2.out.2; clear q)
        go_simp
        exact rfl
    intro W hW
    have hW : Gr w1 W := hW
    simp only [List.reverse_cons, List.reverse_nil, List.nil_append, List.cons_append, Vc.finish, Act.put, List.setIfInBounds_toArray, List.set_cons_zero, List.set_cons_succ]
    rintro u27 _ u30 ⟨_, hu⟩ _
    obtain ⟨A3, c3, rfl, ho3⟩ := hu (Nat.le_refl _)
    clear hu
    simp only [List.drop_succ_cons, List.drop_zero]
    have HL2 := Lib.hid (show (L2.map encStr).length = n2 * 1 by have := hn2.out; simpa using this)
    go_wp2_with (first
      | (at_builtin; with_reducible refine wpList_append (o := ⟨some 33, _, _, _, _, _⟩) _ rfl _ _ 23 rfl w1.heap.size 9 i0 _ 1 16 Try.underlying23 hi hz0 hz1 hz2 rfl (by omega) A3 n1 c3 _ rfl ho3 _ _ _ _ rfl HL2.out (hd2.gr hW) (enc_one _) (by omega) (by unfold maxLen; omega) hW.size ?_
         intro Aal cal w5 ho5 hk5
         have hg5 := hW.grownB hk5.grown (fun g hg => (ho3.blk g hg).1)
         have hd5 := ho5.rd
         rw [hM2.out] at hd5
         clear hk5 ho5 ho3))
    have hM := hMl
    go_loopw [9] (fun i wr => ∃ j : Nat, j ≤ n1 + n2 ∧ i = .int .i64 j ∧ ∃ A' n' c', Below (w.heap.size + 1 + 1 + 1) w1 wr ∧ Rd wr Aal (M.map encStr) ∧ Row wr (w.heap.size + 1 + 1 + 1) 25 [.bool _, .slice A' n' c'] ∧ Hid ((ofL (R (M.take j))).length = n') ∧ Rd wr A' ((ofL (R (M.take j))).map encStr) ∧ n' ≤ c' ∧ c' ≤ maxLen) (fun i _ => n1 + n2 - (intOf i).toNat)
    case atStart => exact ⟨0, by omega, rfl, none, 0, 0, hg5.mono (by omega), hd5, hacc.gr hg5, Lib.hid (by rw [List.take_zero, hR0.out, ofL_nil]; rfl), by rw [List.take_zero, hR0.out, ofL_nil]; exact Rd.nil _ _, by omega, by unfold maxLen; omega⟩
    case round =>
      clear hd5 hg5
      obtain ⟨j, hj, rfl, A', n', c', hbel, hda, hacr, hn', hr', hnc, hcm⟩ := hrel
      have hGw : Gr w wr := hg3.trans (hbel.mono (by omega))
      by_cases hltj : j < n1 + n2
      · have hjl : j < M.length := by omega
        obtain ⟨ad, rfl, hx⟩ := hda.at_ (k := j) (by simpa using hjl)
        simp only [List.getElem_map] at hx
        have hst := hRs.out M j hjl
        have hle := Nat.le_trans (ofL_length_le (R (M.take j))) (hRl.out (M.take j))
        rw [List.length_take] at hle
        have hnn := hn'.out
        have KX := Lib.hid (HH1.out M[j])
        have KY := Lib.hid (HH2.out M[j])
        have HP := Lib.hid (fun W h => put_any A' n' c' (ofL (R (M.take j))) M[j] W hn' h (by omega) hnc hcm (ofL_sorted _))
        rw [put_snoc (M := R (M.take j)) (x := M[j]) (L := R (M.take j) ++ [M[j]]) (fun s => by rw [List.mem_append, List.mem_singleton])] at HP
        generalize M[j] = x at *
        generalize I1 x = p at *
        generalize I2 x = q at *
        generalize hM2' : R (M.take (j + 1)) = R2 at *
        generalize R (M.take j) = R1 at *
        have hM2' := Lib.hid hM2'
        have j1 := Lib.hid (And.intro ((hrow.below hbel (by omega)).cell 0) ((hrow.below hbel (by omega)).cell 1))
        have j2 := Lib.hid (And.intro ((hrow2.below hbel (by omega)).cell 0) ((hrow2.below hbel (by omega)).cell 1))
        have k7 := Lib.hid (And.intro (hacr.cell 0) (hacr.cell 1))
        simp only [List.getElem?_cons_zero, List.getElem?_cons_succ] at j1 j2 k7
        have kx := Lib.hid hx
        have h1w := hr1.gr hGw
        have h2w := hr2.gr hGw
        clear hle hnn
        cases p <;> cases q
        all_goals
          simp only [Bool.and_self, Bool.and_true, Bool.and_false, Bool.true_and, Bool.false_and, Bool.or_self, Bool.or_true, Bool.or_false, Bool.true_or, Bool.false_or, bne_self_eq_false, Bool.false_eq_true, if_false, if_true, List.append_nil, Bool.true_bne, Bool.false_bne, Bool.bne_true, Bool.bne_false, Bool.not_true, Bool.not_false] at hst
          subst hst
          go_wp2_with fail
          refine Vc.wp_region_facts ⟨Gr, fun _ => Gr, fun _ V => Gr wr V, []⟩ (by kernel_rfl) (by kernel_rfl) (fun _ _ _ h h' => h'.trans' h) (Gr.draw _) ?_
          repeat
            refine Vc.Walk.pure (v := ?_) (fun _ => Gr.rfl' _) rfl (by first | exact Vc.GuardYes.no rfl | exact Vc.GuardYes.yes rfl rfl) rfl rfl ?_ ?_
            rotate_left
            · intro _ W hI
              (have q := hI.g; clear hI; have y0 := q.cell j1.out.1; have y1 := q.cell j1.out.2; have y2 := q.cell j2.out.1; have y3 := q.cell j2.out.2; have y4 := q.cell kx.out; clear q)
              go_simp
              exact rfl
          refine Vc.Walk.call (.is ?_) trivial (by first | exact .no rfl | exact .yes rfl rfl) rfl rfl ?_ ?_
          rotate_left
          · intro k V hI
            have hg := hI.g
            clear hI
            go_simp
            refine (KX.out _ (h1w.gr hg)).mono ?_
            rintro e W' ⟨rfl, hg'⟩
            refine ⟨_, rfl, ?_, hg'⟩
            exact rfl
          repeat
            refine Vc.Walk.pure (v := ?_) (fun _ => Gr.rfl' _) rfl (by first | exact Vc.GuardYes.no rfl | exact Vc.GuardYes.yes rfl rfl) rfl rfl ?_ ?_
            rotate_left
            · intro _ W hI
              (have q := hI.g; clear hI; have y0 := q.cell j1.out.1; have y1 := q.cell j1.out.2; have y2 := q.cell j2.out.1; have y3 := q.cell j2.out.2; have y4 := q.cell kx.out; clear q)
              go_simp
              exact rfl
          first
            | skip
              refine Vc.Walk.call (.is ?_) trivial (by first | exact .no rfl | exact .yes rfl rfl) rfl rfl ?_ ?_
              rotate_left
              · intro k V hI
                have hg := hI.g
                clear hI
                go_simp
                refine (KY.out _ (h2w.gr hg)).mono ?_
                rintro e W' ⟨rfl, hg'⟩
                refine ⟨_, rfl, ?_, hg'⟩
                exact rfl
            | iterate 6 refine Vc.Walk.skip (fun _ => Gr.rfl' _) rfl rfl rfl (by decide) ?_
          repeat
            refine Vc.Walk.pure (v := ?_) (fun _ => Gr.rfl' _) rfl (by first | exact Vc.GuardYes.no rfl | exact Vc.GuardYes.yes rfl rfl) rfl rfl ?_ ?_
            rotate_left
            · intro _ W hI
              (have q := hI.g; clear hI; have y0 := q.cell j1.out.1; have y1 := q.cell j1.out.2; have y2 := q.cell j2.out.1; have y3 := q.cell j2.out.2; have y4 := q.cell kx.out; clear q)
              go_simp
              exact rfl
          intro V0 h0
          have h0 : Gr wr V0 := h0
          simp only [List.reverse_cons, List.reverse_nil, List.nil_append, List.cons_append, Vc.finish, Act.put, List.setIfInBounds_toArray, List.set_cons_zero, List.set_cons_succ]
          go_wp2_with fail
          refine Vc.wp_region_facts ⟨Gr, fun _ => Gr, fun _ V => Gr V0 V, []⟩ (by kernel_rfl) (by kernel_rfl) (fun _ _ _ h h' => h'.trans' h) (Gr.draw _) ?_
          repeat
            refine Vc.Walk.pure (v := ?_) (fun _ => Gr.rfl' _) rfl (by first | exact Vc.GuardYes.no rfl | exact Vc.GuardYes.yes rfl rfl) rfl rfl ?_ ?_
            rotate_left
            · intro _ W hI
              (have q := h0.trans' hI.g; clear hI; have y0 := q.cell j1.out.1; have y1 := q.cell j1.out.2; have y2 := q.cell j2.out.1; have y3 := q.cell j2.out.2; have y4 := q.cell kx.out; clear q)
              go_simp
              exact rfl
          refine Vc.Walk.call (.is ?_) trivial (by first | exact .no rfl | exact .yes rfl rfl) rfl rfl ?_ ?_
          rotate_left
          · intro k V hI
            have hg := h0.trans' hI.g
            clear hI
            go_simp
            refine (KX.out _ (h1w.gr hg)).mono ?_
            rintro e W' ⟨rfl, hg'⟩
            refine ⟨_, rfl, ?_, hg'⟩
            exact rfl
          repeat
            refine Vc.Walk.pure (v := ?_) (fun _ => Gr.rfl' _) rfl (by first | exact Vc.GuardYes.no rfl | exact Vc.GuardYes.yes rfl rfl) rfl rfl ?_ ?_
            rotate_left
            · intro _ W hI
              (have q := h0.trans' hI.g; clear hI; have y0 := q.cell j1.out.1; have y1 := q.cell j1.out.2; have y2 := q.cell j2.out.1; have y3 := q.cell j2.out.2; have y4 := q.cell kx.out; clear q)
              go_simp
              exact rfl
          first
            | skip
              refine Vc.Walk.call (.is ?_) trivial (by first | exact .no rfl | exact .yes rfl rfl) rfl rfl ?_ ?_
              rotate_left
              · intro k V hI
                have hg := h0.trans' hI.g
                clear hI
                go_simp
                refine (KY.out _ (h2w.gr hg)).mono ?_
                rintro e W' ⟨rfl, hg'⟩
                refine ⟨_, rfl, ?_, hg'⟩
                exact rfl
            | iterate 6 refine Vc.Walk.skip (fun _ => Gr.rfl' _) rfl rfl rfl (by decide) ?_
          repeat
            refine Vc.Walk.pure (v := ?_) (fun _ => Gr.rfl' _) rfl (by first | exact Vc.GuardYes.no rfl | exact Vc.GuardYes.yes rfl rfl) rfl rfl ?_ ?_
            rotate_left
            · intro _ W hI
              (have q := h0.trans' hI.g; clear hI; have y0 := q.cell j1.out.1; have y1 := q.cell j1.out.2; have y2 := q.cell j2.out.1; have y3 := q.cell j2.out.2; have y4 := q.cell kx.out; clear q)
              go_simp
              exact rfl
          intro V hV
          have hV : Gr wr V := h0.trans' hV
          simp only [List.reverse_cons, List.reverse_nil, List.nil_append, List.cons_append, Vc.finish, Act.put, List.setIfInBounds_toArray, List.set_cons_zero, List.set_cons_succ]
          have hbV := Below.andGr hbel hV (by have := hacr.lt; omega)
          have c70 := hV.cell k7.out.1
          clear KX KY
          go_wp2_with fail
          clear c70
          first
            | go_roundw
              case rel => exact ⟨j + 1, by omega, by go_num, A', n', c', hbV, hda.gr hV, hacr.gr hV, by rw [hM2'.out]; exact hn', by rw [hM2'.out]; exact hr'.gr hV, hnc, hcm⟩
              case measure => simp [intOf]; omega
            | skip
              refine Vc.wp_region_split ⟨Gr, fun _ => Gr, fun _ U => Gr V U, []⟩ 8 [] (by kernel_rfl) (by kernel_rfl) (by kernel_rfl) (by decide) (by simp) (by simp) (by simp) (fun _ _ h => h.size) (fun _ _ _ h => h.size) (fun _ _ _ h h' => h'.trans' h) (Gr.draw _) ?_
              repeat
                refine Vc.Walk.pure (v := ?_) (fun _ => Gr.rfl' _) rfl (by first | exact Vc.GuardYes.no rfl | exact Vc.GuardYes.yes rfl rfl) rfl rfl ?_ ?_
                rotate_left
                · intro _ W hI
                  (have q := hV.trans' hI.g; clear hI; have y1 := q.cell k7.out.2; have y4 := q.cell kx.out; clear q)
                  go_simp
                  exact rfl
              refine Vc.Walk.call (.fits (Vc.All (SlV (ofL (R1 ++ [x]))))) (st_gr (fun _ _ h => h) (fun _ _ _ h => h) SlV.gr) (.no rfl) rfl rfl ?_ ?_
              · intro k U hI
                have hg := hV.trans' hI.g
                clear hI
                go_simp
                refine (HP.out _ (hr'.gr hg)).mono ?_
                rintro e W' ⟨A2', n2', c2', rfl, hn2', hr2', h1, h2, hg'⟩
                exact ⟨_, rfl, ⟨_, _, _, rfl, hn2', hr2', h1, h2⟩, hg'⟩
              repeat
                refine Vc.Walk.pure (v := ?_) (fun _ => Gr.rfl' _) rfl (by first | exact Vc.GuardYes.no rfl | exact Vc.GuardYes.yes rfl rfl) rfl rfl ?_ ?_
                rotate_left
                · intro _ W hI
                  (have q := hV.trans' hI.g; clear hI; have y1 := q.cell k7.out.2; have y4 := q.cell kx.out; clear q)
                  go_simp
                  exact rfl
              intro U hU
              have hU : Gr V U := hU
              simp only [List.reverse_cons, List.reverse_nil, List.nil_append, List.cons_append, Vc.finish, Act.put, List.setIfInBounds_toArray, List.set_cons_zero, List.set_cons_succ]
              rintro u80 ⟨A2', n2', c2', rfl, hn2', hr2', h1, h2⟩ _
              simp only [List.drop_succ_cons, List.drop_zero]
              have hR3 := (hacr.gr hV).gr hU
              have hbU : Below (w.heap.size + 1 + 1 + 1) w1 U := Below.andGr hbV hU (by have := (hacr.gr hV).lt; omega)
              have hq0 : U.cell? ⟨w.heap.size + 1 + 1 + 1, 1, none⟩ = some (.slice A' n' c') := hR3.cell 1
              have hf0 : U.frozen? ⟨w.heap.size + 1 + 1 + 1, 1, none⟩ = false := hR3.frozen 1
              have hRn := Lib.hid (hR3.set 1 (.slice A2' n2' c2'))
              have hon := Lib.hid (hr2'.keepStr hR3 (by simp) (only_set U (w.heap.size + 1 + 1 + 1) 1 (.slice A2' n2' c2')))
              have hdan := Lib.hid (((hda.gr hV).gr hU).keepStr hR3 (by simp) (only_set U (w.heap.size + 1 + 1 + 1) 1 (.slice A2' n2' c2')))
              have hbn := Lib.hid (Below.setOne hbU hR3 (by omega) (.slice A2' n2' c2'))
              clear hr2'
              go_wp2_with fail
              go_roundw
              case rel => exact ⟨j + 1, by omega, by go_num, A2', n2', c2', hbn.out, hdan.out, hRn.out, by rw [hM2'.out]; exact hn2', by rw [hM2'.out]; exact hon.out, h1, h2⟩
              case measure => simp [intOf]; omega
      · obtain rfl : j = n1 + n2 := by omega
        rw [List.take_of_length_le (by omega)] at hr' hn'
        have hresr : Row wr (w.heap.size + 1 + 1) 25 [.bool false, .slice none 0 0] := hres.below hbel (by omega)
        have hq0 : wr.cell? ⟨w.heap.size + 1 + 1, 0, none⟩ = some (.bool false) := hresr.cell 0
        have hq1 : wr.cell? ⟨w.heap.size + 1 + 1, 1, none⟩ = some (.slice none 0 0) := hresr.cell 1
        have hf0 : wr.frozen? ⟨w.heap.size + 1 + 1, 0, none⟩ = false := hresr.frozen 0
        have hf1 : wr.frozen? ⟨w.heap.size + 1 + 1, 1, none⟩ = false := hresr.frozen 1
        have hc4 := hacr.cell 0
        have hc5 := hacr.cell 1
        simp only [List.getElem?_cons_zero, List.getElem?_cons_succ] at hc4 hc5
        clear hltj
        obtain ⟨hR, ho3, hG⟩ := res2c hresr hGw (by omega) hc4 (.slice A' n' c')
        replace hR := Lib.hid hR
        replace ho3 := Lib.hid ho3
        replace hG := Lib.hid hG
        go_wp2_with fail
        have hs0 := hR.out.cell 0
        have hs1 := hR.out.cell 1
        simp only [List.getElem?_cons_zero, List.getElem?_cons_succ] at hs0 hs1
        (try simp only [Exit.inBlock, Exit.then])
        refine bodyPost_ret (v := ?_) ?_ rfl ?_
        rotate_left
        · simp [results, Try.results39, go_sem, hs0, hs1]
          (try rfl)
        exact ⟨A', n', c', rfl, hn', hr'.keepStr hresr (by simp) ho3.out, hnc, hcm, hG.out⟩
end Go.Proofs.Ytbjkfllghkcgcaa
