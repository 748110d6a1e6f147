/- VfsRoom: the walk. -/
import Derived.Test.YtopellbmmkflgaaVrP
set_option linter.unusedVariables false
set_option linter.unusedSimpArgs false
namespace Go.Proofs.Ytopellbmmkflgaa
open Go.RowKit Go.Maps Go.Sort
attribute [local go_sem] Vc.known_tmp Vc.known_const Vc.known_func Vc.known_global Vc.lk Vc.okUpon Vc.Fact.holds
def nmL : List Str := [[97], [98], [99], [100]]
def nv (z : Nat) : Value := .int .i64 (z : Int)
theorem Sv.outside {w0 W W' : World} {X : Nat → Prop} {p g : Nat} {s : V} (h : Sv w0 W X p s) (hg : W.grownBy W' (some g)) (hx : ¬ X g) (hl : w0.heap.size ≤ g) : Sv w0 W' X p s :=
  ⟨h.at_.frame (Tr.of_grown (X := fun i => i = g) hg (fun i e => by injection e with e; exact e.symm)) (fun i hi hxi => hx (hi ▸ hxi)), Below.grown h.gr hg h.gr.size (fun k hk => by cases hk; exact hl), h.hi⟩
set_option maxRecDepth 20000 in
set_option maxHeartbeats 4000000 in
theorem vfsRoom.walk (w : World) (r : Int) (r0 : -9223372036854775808 ≤ r) (r1 : r ≤ 9223372036854775807) (A : Option Addr) (n c : Nat) (ns : List Int) (hn : Hid (ns.length = n)) (hr : Rd w A (ns.map iv))
    (hns : ∀ x ∈ ns, -9223372036854775808 ≤ x ∧ x ≤ 9223372036854775807) (hlc : n ≤ c) (hcm : c ≤ maxLen) :
    Calls Try.prog 3 #[.int .i64 r, .slice A n c] w fun e w' => e = .returned (.bool true) ∧ Gr w w' := by
  have hnc := Nat.le_trans hlc hcm
  unfold maxLen at hnc
  have hK := Lib.hid (known_any w)
  have hW0 := Lib.hid (fun W => within1_any r 300 W r0 r1 (by decide) (by decide))
  have hR0 : 0 ≤ r % 300 := Int.emod_nonneg r (by decide)
  have hR1 : r % 300 < 300 := Int.emod_lt_of_pos r (by decide)
  generalize r % 300 = R at *
  go_enter Try.func3, Try.ntmps3
  go_wp2_with (first
    | (go_at_call 10; (with_reducible refine hK.out.mono ?_); rintro e w1 ⟨rfl, hg1⟩; clear hK)
    | (go_at_call 11; (with_reducible refine (hW0.out _).mono ?_); rintro e w2 ⟨rfl, rfl⟩; clear hW0
       have hN := Lib.hid (new_any R w1))
    | (go_at_call 12; (with_reducible refine hN.out.mono ?_); rintro e w3 ⟨p, X, rfl, ha, hg3, hx⟩
       have hS := Lib.hid (Sv.new ha (hg1.trans' hg3) (fun i hi => Nat.le_trans hg1.size (hx i hi)))
       clear hN ha hx))
  have hrow := Row.new w3 27 [nv 0, nv 0, nv 0, nv 0]
  have hg4 := Gr.alloc1 w3 (.cells [nv 0, nv 0, nv 0, nv 0].toArray 27)
  have hxs : ¬ X w3.heap.size := fun hx => Nat.lt_irrefl _ (hS.out.at_.lt _ hx)
  have hS := Lib.hid (hS.out.more hg4)
  have hgs : w.heap.size ≤ w3.heap.size := Nat.le_trans hg1.size hg3.size
  have hI := Lib.hid (RI.new R hR0 (by omega))
  go_loopw [7] (fun i wr => ∃ (j : Nat) (X : Nat → Prop) (s : V) (zs : List Nat), j ≤ n ∧ j ≤ 30 ∧ i = .int .i64 j ∧ Hid (Sv w wr X p s) ∧ Hid (RI s R.toNat zs j) ∧ ¬ X w3.heap.size ∧ Row wr w3.heap.size 27 (zs.map nv)) (fun i _ => n - (intOf i).toNat)
  case atStart => exact ⟨0, X, _, [0, 0, 0, 0], by omega, by omega, rfl, hS, hI, hxs, hrow⟩
  case round =>
    obtain ⟨j, X, s, zs, hj, hj30, rfl, hS, hI, hxs, hrow⟩ := hrel
    by_cases hlt : j < n ∧ j < 30
    · obtain ⟨hlt, hlt30⟩ := hlt
      have hjl : j < ns.length := by have := hn.out; omega
      obtain ⟨ad, rfl, hc⟩ := (hr.gr hS.out.gr).at_ (k := j) (by simpa using hjl)
      simp only [List.getElem_map, iv] at hc
      have hb := hns ns[j] (List.getElem_mem hjl)
      generalize hx : ns[j] = x at *
      have hWa := Lib.hid (fun W => within1_any x 4 W hb.1 hb.2 (by decide) (by decide))
      have hk0 : 0 ≤ x % 4 := Int.emod_nonneg x (by decide)
      have hk1 : x % 4 < 4 := Int.emod_lt_of_pos x (by decide)
      obtain ⟨k, hk⟩ : ∃ k : Nat, x % 4 = (k : Int) := ⟨(x % 4).toNat, by omega⟩
      rw [hk] at hWa hk0 hk1
      have hk4 : k < 4 := by omega
      have hy0 : -9223372036854775808 ≤ IntKind.i64.wrap (x.tdiv 4) ∧ IntKind.i64.wrap (x.tdiv 4) ≤ 9223372036854775807 := by rw [IntKind.wrap_i64]; omega
      have hWb := Lib.hid (fun W => within1_any (IntKind.i64.wrap (x.tdiv 4)) 150 W hy0.1 hy0.2 (by decide) (by decide))
      have hm0 := Int.emod_nonneg (IntKind.i64.wrap (x.tdiv 4)) (show (150 : Int) ≠ 0 by decide)
      have hm1 := Int.emod_lt_of_pos (IntKind.i64.wrap (x.tdiv 4)) (show (0 : Int) < 150 by decide)
      obtain ⟨m, hm⟩ : ∃ m : Nat, IntKind.i64.wrap (x.tdiv 4) % 150 = (m : Int) := ⟨(IntKind.i64.wrap (x.tdiv 4) % 150).toNat, by omega⟩
      rw [hm] at hWb hm0 hm1
      have hm150 : m < 150 := by omega
      clear hy0 hm hk hb
      go_wp2_with fail
      refine Vc.wp_region_facts ⟨fun W W' => W = W', fun _ W W' => W = W', fun _ W => W = wr.drew, []⟩ (by kernel_rfl) (by kernel_rfl) (fun _ _ _ h h' => h ▸ h') rfl ?_
      have hcd : wr.drew.cell? (ad.add j) = some (.int .i64 x) := hc
      clear hc
      repeat
        refine Vc.Walk.pure (v := ?_) (fun _ => rfl) rfl (by first | exact Vc.GuardYes.no rfl | exact Vc.GuardYes.yes rfl rfl) rfl rfl ?_ ?_
        rotate_left
        · intro _ W hI
          (obtain rfl := hI.g; clear hI)
          go_simp
          exact rfl
      refine Vc.Walk.call (.is (.int .i64 k)) trivial (.no rfl) rfl rfl ?_ ?_
      · intro _ W hI
        obtain rfl := hI.g
        clear hI
        go_simp
        refine (hWa.out _).mono ?_
        rintro e W' ⟨rfl, rfl⟩
        exact ⟨_, rfl, rfl, rfl⟩
      repeat
        refine Vc.Walk.pure (v := ?_) (fun _ => rfl) rfl (by first | exact Vc.GuardYes.no rfl | exact Vc.GuardYes.yes rfl rfl) rfl rfl ?_ ?_
        rotate_left
        · intro _ W hI
          (obtain rfl := hI.g; clear hI)
          go_simp
          exact rfl
      refine Vc.Walk.call (.is (.int .i64 m)) trivial (.no rfl) rfl rfl ?_ ?_
      · intro _ W hI
        obtain rfl := hI.g
        clear hI
        go_simp
        refine (hWb.out _).mono ?_
        rintro e W' ⟨rfl, rfl⟩
        exact ⟨_, rfl, rfl, rfl⟩
      repeat
        refine Vc.Walk.pure (v := ?_) (fun _ => rfl) rfl (by first | exact Vc.GuardYes.no rfl | exact Vc.GuardYes.yes rfl rfl) rfl rfl ?_ ?_
        rotate_left
        · intro _ W hI
          (obtain rfl := hI.g; clear hI)
          go_simp
          exact rfl
      rintro W rfl
      simp only [List.reverse_cons, List.reverse_nil, List.nil_append, List.cons_append, Vc.finish, Act.put, List.setIfInBounds_toArray, List.set_cons_zero, List.set_cons_succ]
      replace hS := Lib.hid (hS.out.more (Gr.draw wr))
      replace hrow := hrow.drew
      clear hcd hWa hWb
      generalize wr.drew = W at *
      have hzl := hI.out.len
      go_wp2_with fail
      go_loopw [10, 11] (fun a t wq => ∃ q : Nat, q ≤ 4 ∧ a = .int .i64 (oth zs k q : Nat) ∧ t = .int .i64 q ∧ W = wq) (fun _ t _ => 4 - (intOf t).toNat)
      case atStart => exact ⟨0, by omega, rfl, rfl, rfl⟩
      case round =>
        obtain ⟨q, hq, rfl, rfl, rfl⟩ := hrel
        by_cases hq4 : q < 4
        · have hq4' : (q : Int) < 4 := by omega
          have hzq : zs.getD q 0 ≤ 150 := by
            rw [List.getD_eq_getElem?_getD, List.getElem?_eq_getElem (by omega)]
            exact hI.out.small _ (List.getElem_mem _)
          have hcell : W.cell? ⟨w3.heap.size, q, none⟩ = some (.int .i64 (zs.getD q 0 : Nat)) := by
            rw [hrow.cell, List.getElem?_map, List.getElem?_eq_getElem (by omega), List.getD_eq_getElem?_getD, List.getElem?_eq_getElem (by omega)]
            rfl
          have hos := oth_succ zs k q
          have hob := oth_le hI.out.small k q
          generalize zs.getD q 0 = z at *
          generalize oth zs k q = o at *
          by_cases hqk : q = k
          · subst hqk
            go_wp2_with fail
            go_roundw
            case rel => exact ⟨q + 1, by omega, by rw [hos, if_pos rfl]; simp, by simp, trivial⟩
            case measure => simp [intOf]; omega
          · have hqk' : ((q : Int) == (k : Int)) = false := by simp; omega
            go_wp2_with fail
            go_roundw
            case rel => exact ⟨q + 1, by omega, by rw [hos, if_neg hqk]; simp, by simp, trivial⟩
            case measure => simp [intOf]; omega
        · obtain rfl : q = 4 := by omega
          go_wp2_with fail
          have hob := oth_le hI.out.small k 4
          have HW := Lib.hid (fun (V : World) (hV : Gr W V) (g : Nat) (b : Str) (hb : b.length = m) (hrd : Rd V (some ⟨g, 0, none⟩) (b.map bv)) =>
            write_any (hS.out.more hV).at_ ⟨Nat.le_trans hI.out.ops (by omega), by rw [hI.out.stop]; omega⟩ (nm4 k) (by rw [nm4_len k hk4]; decide) (some ⟨g, 0, none⟩) m m b (Lib.hid hb) hrd (by omega))
          obtain ⟨i0, hi0, hz0, hz1, hz2⟩ := info_parts info_u8
          have hnmk : (nmL.map encStr)[k]? = some (encStr (nm4 k)) := by
            have : k = 0 ∨ k = 1 ∨ k = 2 ∨ k = 3 := by omega
            rcases this with rfl | rfl | rfl | rfl <;> rfl
          refine Vc.wp_region_split ⟨Gr, fun _ => Gr, fun _ V => Gr W V, []⟩ 7 [] (by kernel_rfl) (by kernel_rfl) (by kernel_rfl) (by decide) (by simp) (by simp) (by simp) (fun _ _ h => h.size) (fun _ _ _ h => h.size) (fun _ _ _ h h' => h'.trans' h) (Gr.draw _) ?_
          repeat
            refine Vc.Walk.pure (v := ?_) (fun _ => Gr.rfl' _) rfl (by first | exact Vc.GuardYes.no rfl | exact Vc.GuardYes.yes rfl rfl) rfl rfl ?_ ?_
            rotate_left
            · intro _ W hI
              (clear hI)
              go_simp
              exact rfl
          refine Vc.Walk.call (.fits (Vc.All fun v V => ∃ g, v = .slice (some ⟨g, 0, none⟩) 4 4 ∧ Row V g 9 (nmL.map encStr))) (Vc.All.stable (fun u V V' hl hf => by obtain ⟨g, e, hR⟩ := hf; exact ⟨g, e, hR.gr hl⟩) (fun _ u V V' _ hl hf => by obtain ⟨g, e, hR⟩ := hf; exact ⟨g, e, hR.gr hl⟩)) (.no rfl) rfl rfl ?_ ?_
          · intro _ V hI
            clear hI
            go_simp
            exact ⟨⟨_, rfl, Row.new V _ (nmL.map encStr)⟩, Gr.alloc1 _ _⟩
          repeat
            refine Vc.Walk.pure (v := ?_) (fun _ => Gr.rfl' _) rfl (by first | exact Vc.GuardYes.no rfl | exact Vc.GuardYes.yes rfl rfl) rfl rfl ?_ ?_
            rotate_left
            · intro _ W hI
              (clear hI)
              go_simp
              exact rfl
          refine Vc.Walk.any (.fits (Vc.All fun v V => ∃ g, v = .pointer (some ⟨g, k, none⟩) ∧ Row V g 9 (nmL.map encStr))) (Vc.All.stable (fun u V V' hl hf => by obtain ⟨g, e, hR⟩ := hf; exact ⟨g, e, hR.gr hl⟩) (fun _ u V V' _ hl hf => by obtain ⟨g, e, hR⟩ := hf; exact ⟨g, e, hR.gr hl⟩)) (.no rfl) ?_ ?_
          · intro ρ _ V hI hf
            obtain ⟨⟨g, hρ1, hR⟩, hρ2, _⟩ := hf
            have e1 : ρ (.tmp 53) = .slice (some ⟨g, 0, none⟩) 4 4 := hρ1
            have e2 : ρ (.tmp 54) = .int .i64 k := hρ2
            clear hI hρ1 hρ2
            go_simp
            exact ⟨⟨_, rfl, hR⟩, Gr.rfl' _⟩
          refine Vc.Walk.any (.is (encStr (nm4 k))) trivial (.no rfl) ?_ ?_
          · intro ρ _ V hI hf
            obtain ⟨⟨g, hρ1, hR⟩, _⟩ := hf
            have e1 : ρ (.tmp 55) = .pointer (some ⟨g, k, none⟩) := hρ1
            have hcell : V.cell? ⟨g, k, none⟩ = some (encStr (nm4 k)) := (hR.cell k).trans hnmk
            clear hI hρ1
            go_simp
            first | exact ⟨rfl, Gr.rfl' _⟩ | exact Gr.rfl' _
          repeat
            refine Vc.Walk.pure (v := ?_) (fun _ => Gr.rfl' _) rfl (by first | exact Vc.GuardYes.no rfl | exact Vc.GuardYes.yes rfl rfl) rfl rfl ?_ ?_
            rotate_left
            · intro _ W hI
              (clear hI)
              go_simp
              exact rfl
          refine Vc.Walk.any (.fits (Vc.All fun v V => ∃ g, v = .slice (some ⟨g, 0, none⟩) m m ∧ Rd V (some ⟨g, 0, none⟩) ((List.replicate m (0 : UInt8)).map bv))) (Vc.All.stable (fun u V V' hl hf => by obtain ⟨g, e, hR⟩ := hf; exact ⟨g, e, hR.gr hl⟩) (fun _ u V V' _ hl hf => by obtain ⟨g, e, hR⟩ := hf; exact ⟨g, e, hR.gr hl⟩)) (.no rfl) ?_ ?_
          · intro ρ _ V hI hf
            obtain ⟨hρ1, hρ2, _⟩ := hf
            have e1 : ρ (.tmp 57) = .int .i64 m := hρ1
            have hmk := run_make (P := Try.prog) V 31 5 i0 _ Try.underlying31 hi0 hz0 .i64 .i64 m m (by omega) (by omega) (by rw [hz2]; omega) (by omega)
            clear hI hρ1 hρ2
            simp only [Int.toNat_natCast, hz1, made_one (.int .u8 0) rfl] at hmk
            unfold execOp
            simp [e1, hmk, Result.andThen, Vc.okUpon]
            exact ⟨⟨V.heap.size, rfl, by have := Rd.new V (List.replicate m (.int .u8 0)) 5; simpa [bv] using this⟩, Gr.alloc1 _ _⟩
          intro V hV
          have hV : Gr W V := hV
          simp only [List.reverse_cons, List.reverse_nil, List.nil_append, List.cons_append, Vc.finish, Act.put, List.setIfInBounds_toArray, List.set_cons_zero, List.set_cons_succ]
          rintro u53 ⟨_, rfl, _⟩ u55 ⟨_, rfl, _⟩ u58 ⟨gm, rfl, hrd⟩ _
          simp only [List.drop_succ_cons, List.drop_zero]
          replace HW := Lib.hid (HW.out V hV gm _ (by simp) hrd)
          replace hrow := hrow.gr hV
          replace hS := Lib.hid (hS.out.more hV)
          by_cases hf : R.toNat < oth zs k 4 + m
          · rw [hI.out.full hk4 (by simp) hf] at HW
            have hf' : R < (oth zs k 4 : Int) + (m : Int) := by omega
            generalize oth zs k 4 = o at *
            go_wp2_with (go_at_call 13; (with_reducible refine HW.out.mono ?_); rintro e V3 ⟨rfl, X2, ha, hm⟩)
            have hrow3 := (hm.row hrow hxs).1
            have hxs3 := (hm.row hrow hxs).2
            have hS3 := Lib.hid (hS.out.step ha hm)
            have hI3 : Hid (RI s R.toNat zs (j + 1)) := Lib.hid (hI.out.more)
            obtain ⟨s2, hs2⟩ : ∃ s2, s = s2 := ⟨_, rfl⟩
            rw [hs2] at hI3 hS3
            obtain ⟨z0, z1, z2, z3, rfl⟩ := four hI3.out.len
            have hsm := hI3.out.small
            have b0 := hsm z0 (by simp)
            have b1 := hsm z1 (by simp)
            have b2 := hsm z2 (by simp)
            have b3 := hsm z3 (by simp)
            have hu : s2.now.used = z0 + z1 + z2 + z3 := by rw [hI3.out.used]; simp; omega
            have HU := Lib.hid (fun U (hU : Gr V3 U) => used_any (hS3.out.more hU).at_ ⟨Nat.le_trans hI3.out.ops (by omega), by rw [hI3.out.stop]; omega⟩)
            rw [hu] at HU
            have y := Lib.hid (And.intro (hrow3.cell 0) (And.intro (hrow3.cell 1) (And.intro (hrow3.cell 2) (hrow3.cell 3))))
            simp only [List.map_cons, List.map_nil, List.getElem?_cons_zero, List.getElem?_cons_succ, nv] at y
            refine Vc.wp_region_facts ⟨Gr, fun _ => Gr, fun _ U => Gr V3 U, []⟩ (by kernel_rfl) (by kernel_rfl) (fun _ _ _ h h' => h'.trans' h) (Gr.draw _) ?_
            repeat
              refine Vc.Walk.pure (v := ?_) (fun _ => Gr.rfl' _) rfl (by first | exact Vc.GuardYes.no rfl | exact Vc.GuardYes.yes rfl rfl) rfl rfl ?_ ?_
              rotate_left
              · intro _ W hI
                (clear hI)
                go_simp
                exact rfl
            refine Vc.Walk.call (.is (.int .i64 (z0 + z1 + z2 + z3 : Nat))) trivial (.no rfl) rfl rfl ?_ ?_
            · intro _ U hI
              have hg := hI.g
              clear hI
              go_simp
              refine (HU.out U hg).mono ?_
              rintro e U' ⟨rfl, hg'⟩
              exact ⟨_, rfl, rfl, hg'⟩
            repeat
              refine Vc.Walk.pure (v := ?_) (fun _ => Gr.rfl' _) rfl (by first | exact Vc.GuardYes.no rfl | exact Vc.GuardYes.yes rfl rfl) rfl rfl ?_ ?_
              rotate_left
              · intro _ W hI
                (have q := hI.g; clear hI; have q0 := q.cell y.out.1; have q1 := q.cell y.out.2.1; have q2 := q.cell y.out.2.2.1; have q3 := q.cell y.out.2.2.2; clear q)
                go_simp
                exact rfl
            intro U hU
            have hU : Gr V3 U := hU
            simp only [List.reverse_cons, List.reverse_nil, List.nil_append, List.cons_append, Vc.finish, Act.put, List.setIfInBounds_toArray, List.set_cons_zero, List.set_cons_succ]
            have w1 : IntKind.i64.wrap ((z0 : Int) + (z1 : Int)) = (z0 : Int) + (z1 : Int) := by rw [IntKind.wrap_i64]; omega
            have w2 : IntKind.i64.wrap ((z0 : Int) + (z1 : Int) + (z2 : Int)) = (z0 : Int) + (z1 : Int) + (z2 : Int) := by rw [IntKind.wrap_i64]; omega
            have w3 : IntKind.i64.wrap ((z0 : Int) + (z1 : Int) + (z2 : Int) + (z3 : Int)) = (z0 : Int) + (z1 : Int) + (z2 : Int) + (z3 : Int) := by rw [IntKind.wrap_i64]; omega
            have hcmp : (((z0 + z1 + z2 + z3 : Nat) : Int) != (z0 : Int) + (z1 : Int) + (z2 : Int) + (z3 : Int)) = false := by simp
            simp only [w1, w2, w3, hcmp]
            clear w1 w2 w3 hcmp
            go_wp2_with fail
            go_roundw
            case rel => exact ⟨j + 1, X2, s2, [z0, z1, z2, z3], by omega, by omega, by simp, Lib.hid (hS3.out.more hU), hI3, hxs3, hrow3.gr hU⟩
            case measure => simp [intOf]; omega
          · have hfi := hI.out.fits (b := List.replicate m 0) hS.out.ok hk4 (by simp) (by omega) hf
            rw [hfi.1] at HW
            have hf' : ¬ R < (oth zs k 4 : Int) + (m : Int) := by omega
            have hk4' : (k : Int) < 4 := by omega
            have hI3 := Lib.hid hfi.2
            clear hfi
            generalize (s.write (nm4 k) (List.replicate m 0)).1 = s2 at *
            generalize oth zs k 4 = o at *
            go_wp2_with (go_at_call 13; (with_reducible refine HW.out.mono ?_); rintro e V2 ⟨rfl, X2, ha, hm⟩
                         have hrow2 := (hm.row hrow hxs).1
                         have hxs3 := (hm.row hrow hxs).2
                         have hS2 := Lib.hid (hS.out.step ha hm)
                         have hfz := hrow2.frozen k
                         have hcl : V2.cell? ⟨w3.heap.size, k, none⟩ = some (.int .i64 (zs.getD k 0 : Nat)) := by
                           rw [hrow2.cell, List.getElem?_map, List.getElem?_eq_getElem (by omega), List.getD_eq_getElem?_getD, List.getElem?_eq_getElem (by omega)]
                           rfl)
            have hrow3 := hrow2.set k (nv m)
            rw [← List.map_set] at hrow3
            have hS3 := Lib.hid (hS2.out.outside (only_set V2 w3.heap.size k (nv m)) hxs3 hgs)
            generalize hz2 : zs.set k m = zs2 at *
            generalize hV3 : V2.setCell ⟨w3.heap.size, k, none⟩ (nv m) = V3 at *
            have hV3' : V2.setCell ⟨w3.heap.size, k, none⟩ (.int .i64 (m : Int)) = V3 := hV3
            rw [hV3']
            clear hV3 hV3' hrow2 hS2 hfz hcl hz2 hrow hS hI
            obtain ⟨z0, z1, z2, z3, rfl⟩ := four hI3.out.len
            have hsm := hI3.out.small
            have b0 := hsm z0 (by simp)
            have b1 := hsm z1 (by simp)
            have b2 := hsm z2 (by simp)
            have b3 := hsm z3 (by simp)
            have hu : s2.now.used = z0 + z1 + z2 + z3 := by rw [hI3.out.used]; simp; omega
            have HU := Lib.hid (fun U (hU : Gr V3 U) => used_any (hS3.out.more hU).at_ ⟨Nat.le_trans hI3.out.ops (by omega), by rw [hI3.out.stop]; omega⟩)
            rw [hu] at HU
            have y := Lib.hid (And.intro (hrow3.cell 0) (And.intro (hrow3.cell 1) (And.intro (hrow3.cell 2) (hrow3.cell 3))))
            simp only [List.map_cons, List.map_nil, List.getElem?_cons_zero, List.getElem?_cons_succ, nv] at y
            refine Vc.wp_region_facts ⟨Gr, fun _ => Gr, fun _ U => Gr V3 U, []⟩ (by kernel_rfl) (by kernel_rfl) (fun _ _ _ h h' => h'.trans' h) (Gr.draw _) ?_
            repeat
              refine Vc.Walk.pure (v := ?_) (fun _ => Gr.rfl' _) rfl (by first | exact Vc.GuardYes.no rfl | exact Vc.GuardYes.yes rfl rfl) rfl rfl ?_ ?_
              rotate_left
              · intro _ W hI
                (clear hI)
                go_simp
                exact rfl
            refine Vc.Walk.call (.is (.int .i64 (z0 + z1 + z2 + z3 : Nat))) trivial (.no rfl) rfl rfl ?_ ?_
            · intro _ U hI
              have hg := hI.g
              clear hI
              go_simp
              refine (HU.out U hg).mono ?_
              rintro e U' ⟨rfl, hg'⟩
              exact ⟨_, rfl, rfl, hg'⟩
            repeat
              refine Vc.Walk.pure (v := ?_) (fun _ => Gr.rfl' _) rfl (by first | exact Vc.GuardYes.no rfl | exact Vc.GuardYes.yes rfl rfl) rfl rfl ?_ ?_
              rotate_left
              · intro _ W hI
                (have q := hI.g; clear hI; have q0 := q.cell y.out.1; have q1 := q.cell y.out.2.1; have q2 := q.cell y.out.2.2.1; have q3 := q.cell y.out.2.2.2; clear q)
                go_simp
                exact rfl
            intro U hU
            have hU : Gr V3 U := hU
            simp only [List.reverse_cons, List.reverse_nil, List.nil_append, List.cons_append, Vc.finish, Act.put, List.setIfInBounds_toArray, List.set_cons_zero, List.set_cons_succ]
            have w1 : IntKind.i64.wrap ((z0 : Int) + (z1 : Int)) = (z0 : Int) + (z1 : Int) := by rw [IntKind.wrap_i64]; omega
            have w2 : IntKind.i64.wrap ((z0 : Int) + (z1 : Int) + (z2 : Int)) = (z0 : Int) + (z1 : Int) + (z2 : Int) := by rw [IntKind.wrap_i64]; omega
            have w3 : IntKind.i64.wrap ((z0 : Int) + (z1 : Int) + (z2 : Int) + (z3 : Int)) = (z0 : Int) + (z1 : Int) + (z2 : Int) + (z3 : Int) := by rw [IntKind.wrap_i64]; omega
            have hcmp : (((z0 + z1 + z2 + z3 : Nat) : Int) != (z0 : Int) + (z1 : Int) + (z2 : Int) + (z3 : Int)) = false := by simp
            simp only [w1, w2, w3, hcmp]
            clear w1 w2 w3 hcmp
            go_wp2_with fail
            go_roundw
            case rel => exact ⟨j + 1, X2, s2, [z0, z1, z2, z3], by omega, by omega, by simp, Lib.hid (hS3.out.more hU), hI3, hxs3, hrow3.gr hU⟩
            case measure => simp [intOf]; omega
    · have hRe : ((s.room : Nat) : Int) = R := by rw [hI.out.room]; omega
      have HR1 := Lib.hid (room_any hS.out.at_)
      rw [hRe] at HR1
      have e2 : ((roomOf (-1 - R) : Nat) : Int) = 0 := by rw [roomOf_eq]; omega
      have e3 : ((roomOf (1048577 + R) : Nat) : Int) = 1048576 := by rw [roomOf_eq]; omega
      have HN1 := Lib.hid (fun W => new_any (-1 - R) W)
      have HN2 := Lib.hid (fun W => new_any (1048577 + R) W)
      have e2 := Lib.hid e2
      have e3 := Lib.hid e3
      clear hRe
      have fin : ∀ (h : ¬ (j < n ∧ j < 30)), (j < n ∧ ¬ j < 30) ∨ ¬ j < n := fun h => by omega
      rcases fin hlt with ⟨h1, h2⟩ | h1
      all_goals
        go_wp2_with (first
          | (go_at_call 15; (with_reducible refine HR1.out.mono ?_); rintro e V1 ⟨rfl, rfl⟩; clear HR1)
          | (go_at_call 12; (with_reducible refine (HN1.out _).mono ?_); rintro e V2 ⟨p2, Y2, rfl, ha2, hg2, hx2⟩
             have HR2 := Lib.hid (room_any ha2)
             rw [show ((V.new (-1 - R)).room : Int) = 0 from e2.out] at HR2
             clear HN1)
          | (go_at_call 15; (with_reducible refine HR2.out.mono ?_); rintro e V3 ⟨rfl, rfl⟩; clear HR2)
          | (go_at_call 12; (with_reducible refine (HN2.out _).mono ?_); rintro e V4 ⟨p3, Y3, rfl, ha3, hg3, hx3⟩
             have HR3 := Lib.hid (room_any ha3)
             rw [show ((V.new (1048577 + R)).room : Int) = 1048576 from e3.out] at HR3
             clear HN2)
          | (go_at_call 15; (with_reducible refine HR3.out.mono ?_); rintro e V5 ⟨rfl, rfl⟩; clear HR3))
        go_ret
        exact ⟨rfl, (hS.out.gr.trans' hg2).trans' hg3⟩
end Go.Proofs.Ytopellbmmkflgaa
