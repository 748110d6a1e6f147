/- Package cadenceref3: Not. -/
import Derived.Test.YtbjkfllghkcgcaaNaR2
set_option linter.unusedVariables false
set_option linter.unusedSimpArgs false
namespace Go.Proofs.Ytbjkfllghkcgcaa
open Go.RowKit Go.Sort

attribute [local go_sem] Vc.known_tmp Vc.known_const Vc.known_func Vc.known_global Vc.lk Vc.okUpon Vc.Fact.holds

theorem ofL_nil : ofL [] = [] := List.eq_nil_of_length_eq_zero (Nat.le_zero.1 (ofL_length_le []))
theorem put_snoc {M : List Str} {x : Str} {L : List Str} (h : ∀ s, s ∈ L ↔ s ∈ M ∨ s = x) : ofL (ofL M ++ [x]) = ofL L :=
  ofL_eq.2 fun s => by rw [List.mem_append, List.mem_singleton, ofL_mem, h s]
theorem Below.setOne {B : Nat} {w0 W : World} {t : TypeId} {xs : List Value} {g : Nat} (h : Below B w0 W) (hr : Row W g t xs) (hB : B ≤ g) (u : Value) : Below B w0 (W.setCell ⟨g, 1, none⟩ u) :=
  Below.grown h (only_set W g 1 u) (Nat.le_of_lt (Nat.lt_of_le_of_lt hB hr.lt)) (fun k hk => by cases hk; exact hB)

set_option maxRecDepth 20000 in
set_option maxHeartbeats 4000000 in
theorem xnot_any (b : Bool) (A : Option Addr) (n c : Nat) (L : List Str) (w : World) (hn : Hid (L.length = n)) (hr : Rd w A (L.map encStr)) (hl : n ≤ 10000) :
    Calls Try.prog 26 #[.agg #[.bool b, .slice A n c]] w (NmB w (!b) (ofL L)) := by
  go_enter Try.func26, Try.ntmps26
  go_wp2_with fail
  obtain ⟨hrow, hres, hacc, hg1⟩ := new3 w 25 25 25 [.bool b, .slice A n c] [.bool false, .slice none 0 0] [.bool (!b), .slice none 0 0]
  generalize ((w.alloc (.cells #[.bool b, .slice A n c] 25)).alloc (.cells #[.bool false, .slice none 0 0] 25)).alloc (.cells #[.bool (!b), .slice none 0 0] 25) = w1 at *
  have hlt3 := hacc.lt
  generalize (!b) = f at *
  go_loopw [4] (fun i wr => ∃ j : Nat, j ≤ n ∧ i = .int .i64 j ∧ ∃ A' n' c', Below (w.heap.size + 1 + 1) w1 wr ∧ Row wr (w.heap.size + 1 + 1) 25 [.bool f, .slice A' n' c'] ∧ Hid ((ofL (L.take j)).length = n') ∧ Rd wr A' ((ofL (L.take j)).map encStr) ∧ n' ≤ c' ∧ c' ≤ maxLen) (fun i _ => n - (intOf i).toNat)
  case atStart => exact ⟨0, by omega, rfl, none, 0, 0, Below.refl _ _, hacc, Lib.hid (by rw [List.take_zero, ofL_nil]; rfl), by rw [List.take_zero, ofL_nil]; exact Rd.nil _ _, by omega, by unfold maxLen; omega⟩
  case round =>
    obtain ⟨j, hj, rfl, A', n', c', hbel, hacr, hn', hr', hnc, hcm⟩ := hrel
    have hrowr : Row wr w.heap.size 25 [.bool b, .slice A n c] := hrow.below hbel (by omega)
    have hc1 : wr.cell? ⟨w.heap.size, 1, none⟩ = some (.slice A n c) := hrowr.cell 1
    have hc3 : wr.cell? ⟨w.heap.size + 1 + 1, 1, none⟩ = some (.slice A' n' c') := hacr.cell 1
    have hle := ofL_length_le (L.take j)
    rw [List.length_take] at hle
    have hn1 := hn'.out
    by_cases hlt : j < n
    · have hjl : j < L.length := by have := hn.out; omega
      obtain ⟨ad, rfl, hc⟩ := hr.at_ (k := j) (by simpa using hjl)
      have hblk := World.block_lt_of_cell? w _ hc
      have hc := (Below.cell hg1 hblk).trans hc
      have hc := (Below.cell hbel (Nat.lt_of_lt_of_le hblk (by omega))).trans hc
      simp only [List.getElem_map] at hc
      have hst := Lib.hid (put_snoc (M := L.take j) (x := L[j]) (L := L.take (j + 1)) (fun s => by rw [List.take_succ_eq_append_getElem hjl, List.mem_append, List.mem_singleton]))
      have HP := Lib.hid (fun W h => put_any A' n' c' (ofL (L.take j)) L[j] W hn' h (by omega) hnc hcm (ofL_sorted _))
      rw [hst.out] at HP
      clear hst
      generalize L[j] = x at *
      generalize hM2 : ofL (L.take (j + 1)) = M2 at *
      have hM2 := Lib.hid hM2
      have hC1 := Lib.hid hc1
      have hC3 := Lib.hid hc3
      have hC := Lib.hid hc
      go_wp2_with fail
      refine Vc.wp_region_split ⟨Gr, fun _ => Gr, fun _ W => Gr wr W, []⟩ 9 [] (by kernel_rfl) (by kernel_rfl) (by kernel_rfl) (by decide) (by simp) (by simp) (by simp) (fun _ _ h => h.size) (fun _ _ _ h => h.size) (fun _ _ _ h h' => h'.trans' h) (Gr.draw _) ?_
      repeat
        refine Vc.Walk.pure (v := ?_) (fun _ => Gr.rfl' _) rfl (by first | exact Vc.GuardYes.no rfl | exact Vc.GuardYes.yes rfl rfl) rfl rfl ?_ ?_
        rotate_left
        · intro _ W hI
          (have y0 := hI.g.cell hC1.out; have y1 := hI.g.cell hC3.out; have y2 := hI.g.cell hC.out; clear hI)
          go_simp
          exact rfl
      refine Vc.Walk.call (.fits (Vc.All (SlV M2))) (st_gr (fun _ _ h => h) (fun _ _ _ h => h) SlV.gr) (.no rfl) rfl rfl ?_ ?_
      · intro k W hI
        have hg := hI.g
        clear hI
        go_simp
        refine (HP.out _ (hr'.gr hg)).mono ?_
        rintro e W' ⟨A2, n2, c2, rfl, hn2, hr2, h1, h2, hg'⟩
        exact ⟨_, rfl, ⟨_, _, _, rfl, hn2, hr2, h1, h2⟩, hg'⟩
      repeat
        refine Vc.Walk.pure (v := ?_) (fun _ => Gr.rfl' _) rfl (by first | exact Vc.GuardYes.no rfl | exact Vc.GuardYes.yes rfl rfl) rfl rfl ?_ ?_
        rotate_left
        · intro _ W hI
          (have y0 := hI.g.cell hC1.out; have y1 := hI.g.cell hC3.out; have y2 := hI.g.cell hC.out; clear hI)
          go_simp
          exact rfl
      intro W hW
      have hW : Gr wr W := hW
      simp only [List.reverse_cons, List.reverse_nil, List.nil_append, List.cons_append, Vc.finish, Act.put, List.setIfInBounds_toArray, List.set_cons_zero, List.set_cons_succ]
      rintro u23 ⟨A2, n2, c2, rfl, hn2, hr2, h1, h2⟩ _
      simp only [List.drop_succ_cons, List.drop_zero]
      have hR3 := hacr.gr hW
      have hbw : Below (w.heap.size + 1 + 1) w1 W := Below.andGr hbel hW (by have := hacr.lt; omega)
      have hq0 : W.cell? ⟨w.heap.size + 1 + 1, 1, none⟩ = some (.slice A' n' c') := hR3.cell 1
      have hf0 : W.frozen? ⟨w.heap.size + 1 + 1, 1, none⟩ = false := hR3.frozen 1
      have hRn := Lib.hid (hR3.set 1 (.slice A2 n2 c2))
      have hon := Lib.hid (hr2.keepStr hR3 (by simp) (only_set W (w.heap.size + 1 + 1) 1 (.slice A2 n2 c2)))
      have hbn := Lib.hid (Below.setOne hbw hR3 (by omega) (.slice A2 n2 c2))
      clear hr2 hc1 hc3
      go_wp2_with fail
      go_roundw
      case rel => exact ⟨j + 1, by omega, by go_num, A2, n2, c2, hbn.out, hRn.out, by rw [hM2.out]; exact hn2, by rw [hM2.out]; exact hon.out, h1, h2⟩
      case measure => simp [intOf]; omega
    · obtain rfl : j = n := by omega
      rw [List.take_of_length_le (by have := hn.out; omega)] at hr' hn'
      have hresr : Row wr (w.heap.size + 1) 25 [.bool false, .slice none 0 0] := hres.below hbel (by omega)
      have hGr : Gr w wr := hg1.trans (hbel.mono (by omega))
      have hq0 : wr.cell? ⟨w.heap.size + 1, 0, none⟩ = some (.bool false) := hresr.cell 0
      have hq1 : wr.cell? ⟨w.heap.size + 1, 1, none⟩ = some (.slice none 0 0) := hresr.cell 1
      have hf0 : wr.frozen? ⟨w.heap.size + 1, 0, none⟩ = false := hresr.frozen 0
      have hf1 : wr.frozen? ⟨w.heap.size + 1, 1, none⟩ = false := hresr.frozen 1
      have hc4 : wr.cell? ⟨w.heap.size + 1 + 1, 0, none⟩ = some (.bool f) := hacr.cell 0
      obtain ⟨hR, ho3, hG⟩ := res2 hresr hGr (by omega) (.bool f) (.slice A' n' c')
      replace hR := Lib.hid hR
      replace ho3 := Lib.hid ho3
      replace hG := Lib.hid hG
      clear hn1 hle
      go_wp2_with fail
      have hs0 := hR.out.cell 0
      have hs1 := hR.out.cell 1
      simp only [List.getElem?_cons_zero, List.getElem?_cons_succ] at hs0 hs1
      (try simp only [Exit.inBlock, Exit.then])
      refine bodyPost_ret (v := ?_) ?_ rfl ?_
      rotate_left
      · simp [results, Try.results26, go_sem, hs0, hs1]
        (try rfl)
      exact ⟨A', n', c', rfl, hn', hr'.keepStr hresr (by simp) ho3.out, hnc, hcm, hG.out⟩
end Go.Proofs.Ytbjkfllghkcgcaa
