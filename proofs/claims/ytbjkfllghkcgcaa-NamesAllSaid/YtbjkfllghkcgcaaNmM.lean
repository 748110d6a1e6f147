/- Package cadencelaw3: within, Make. -/
import Derived.Test.YtbjkfllghkcgcaaNmK
set_option linter.unusedVariables false
set_option linter.unusedSimpArgs false
namespace Go.Proofs.Ytbjkfllghkcgcaa
open Go.RowKit Go.Sort

theorem within_neg {a n : Int} (hn : 0 < n) (hn2 : n ≤ 4611686018427387904) (ha : a < 0) (h : a.tmod n < 0) : wrap64 (a.tmod n + n) = a % n := by
  have h1 := Int.emod_nonneg a (show n ≠ 0 by omega)
  have h2 := Int.emod_lt_of_pos a hn
  rw [Int.tmod_eq_emod] at h ⊢
  split at h
  · omega
  · rename_i hc
    rw [if_neg hc]
    unfold wrap64
    omega
theorem within_pos {a n : Int} (hn : 0 < n) (ha : a < 0) (h : ¬ a.tmod n < 0) : a.tmod n = a % n := by
  have h1 := Int.emod_nonneg a (show n ≠ 0 by omega)
  have h2 := Int.emod_lt_of_pos a hn
  rw [Int.tmod_eq_emod] at h ⊢
  split at h
  · rename_i hc
    rw [if_pos hc]
    omega
  · omega

theorem within1_any (a n : Int) (w : World) (h0 : -9223372036854775808 ≤ a) (h1 : a ≤ 9223372036854775807) (hn : 0 < n) (hn2 : n ≤ 4611686018427387904) :
    Calls Try.prog 18 #[.int .i64 a, .int .i64 n] w fun e w' => e = .returned (.int .i64 (a % n)) ∧ w = w' := by
  by_cases ha : 0 ≤ a
  · have hm := Int.emod_nonneg a (show n ≠ 0 by omega)
    go_enter Try.func18, Try.ntmps18
    go_wp2
    go_ret
    exact ⟨rfl, rfl⟩
  · have ha' : a < 0 := by omega
    clear ha
    by_cases hm : a.tmod n < 0
    · have H := Lib.hid (within_neg hn hn2 ha' hm)
      go_enter Try.func18, Try.ntmps18
      go_wp2
      go_ret
      exact ⟨by rw [← H.out]; rfl, rfl⟩
    · have H := Lib.hid (within_pos hn ha' hm)
      go_enter Try.func18, Try.ntmps18
      go_wp2
      go_ret
      exact ⟨by rw [← H.out]; rfl, rfl⟩

attribute [local go_sem] Vc.known_tmp Vc.known_const Vc.known_func Vc.known_global Vc.lk Vc.okUpon Vc.Fact.holds

def strs5 : List Str := [[], [97], [98], [99], [100]]
def mkS (x : Str) : Str := strs5.getD (x.length % 5) []
def mkL (L : List Str) : List Str := (L.take 6).map mkS
theorem mkL_length (L : List Str) : (mkL L).length ≤ 6 := by simp [mkL]; omega
theorem mkS_at (x : Str) : (strs5.map encStr)[x.length % 5]? = some (encStr (mkS x)) := by
  have h : x.length % 5 < strs5.length := Nat.mod_lt _ (by decide)
  rw [List.getElem?_map, List.getElem?_eq_getElem h]
  simp only [Option.map_some, mkS, List.getD_eq_getElem?_getD, List.getElem?_eq_getElem h, Option.getD_some]

theorem Below.setCell_row {B : Nat} {w0 W : World} {t : TypeId} {xs : List Value} (h : Below B w0 W) (hr : Row W B t xs) (u : Value) : Below B w0 (W.setCell ⟨B, 1, none⟩ u) :=
  Below.grown h (only_set W B 1 u) (Nat.le_of_lt hr.lt) (fun k hk => by cases hk; exact Nat.le_refl _)

set_option maxRecDepth 20000 in
set_option maxHeartbeats 4000000 in
theorem make_any (b : Bool) (A : Option Addr) (n c : Nat) (L : List Str) (w : World) (hn : Hid (L.length = n)) (hr : Rd w A (L.map encStr)) (hl : n ≤ maxLen) (hsz : ∀ s ∈ L, s.length ≤ maxLen) :
    Calls Try.prog 17 #[.agg #[.bool b, .slice A n c]] w (NmB w b (mkL L)) := by
  obtain ⟨i0, hi, hz0, hz1, hz2⟩ := info_parts info_str
  go_enter Try.func17, Try.ntmps17
  go_wp2_with fail
  obtain ⟨hrow, hres, hacc, hg1⟩ := new3 w 25 25 25 [.bool b, .slice A n c] [.bool false, .slice none 0 0] [.bool b, .slice none 0 0]
  generalize ((w.alloc (.cells #[.bool b, .slice A n c] 25)).alloc (.cells #[.bool false, .slice none 0 0] 25)).alloc (.cells #[.bool b, .slice none 0 0] 25) = w1 at *
  have hlt3 := hacc.lt
  go_loopw [4] (fun i wr => ∃ j : Nat, j ≤ n ∧ j ≤ 6 ∧ i = .int .i64 j ∧ ∃ A' c', Below (w.heap.size + 1 + 1) w1 wr ∧ Row wr (w.heap.size + 1 + 1) 25 [.bool b, .slice A' j c'] ∧ Own wr (w.heap.size + 1 + 1 + 1) 9 1 A' j c' (((L.take j).map mkS).map encStr)) (fun i _ => n - (intOf i).toNat)
  case atStart => exact ⟨0, by omega, by omega, rfl, none, 0, Below.refl _ _, hacc, Own.nil _ _ _ _⟩
  case round =>
    obtain ⟨j, hj, hj6, rfl, A', c', hbel, hacr, ho⟩ := hrel
    have hrowr : Row wr w.heap.size 25 [.bool b, .slice A n c] := hrow.below hbel (by omega)
    have hc1 : wr.cell? ⟨w.heap.size, 1, none⟩ = some (.slice A n c) := hrowr.cell 1
    have hc3 : wr.cell? ⟨w.heap.size + 1 + 1, 1, none⟩ = some (.slice A' j c') := hacr.cell 1
    by_cases hlt : j < n ∧ j < 6
    · obtain ⟨hlt, hlt6⟩ := hlt
      have hjl : j < L.length := by have := hn.out; omega
      obtain ⟨ad, rfl, hc⟩ := hr.at_ (k := j) (by simpa using hjl)
      have hblk := World.block_lt_of_cell? w _ hc
      replace hc := (Below.cell (hg1) hblk).trans hc
      replace hc := (Below.cell hbel (Nat.lt_of_lt_of_le hblk (by omega))).trans hc
      simp only [List.getElem_map] at hc
      have hst : (L.take (j + 1)).map mkS = (L.take j).map mkS ++ [mkS L[j]] := by rw [List.take_succ_eq_append_getElem hjl, List.map_append]; rfl
      have hxl := hsz L[j] (List.getElem_mem hjl)
      generalize hx : L[j] = x at *
      have hW := Lib.hid (fun W => within1_any (x.length : Int) 5 W (by omega) (by unfold maxLen at hxl; omega) (by decide) (by decide))
      have hat := Lib.hid (mkS_at x)
      have hm5 : x.length % 5 < 5 := Nat.mod_lt _ (by decide)
      have hm : ((x.length : Int) % 5) = ((x.length % 5 : Nat) : Int) := by omega
      rw [hm] at hW
      generalize x.length % 5 = k5 at *
      generalize hy : mkS x = y at *
      replace hst := Lib.hid hst
      clear hm hy hc
      have hcw1 : w1.cell? (ad.add j) = some (encStr x) := by
        have := hr.at_ (k := j) (by simpa using hjl)
        obtain ⟨ad', e, hc⟩ := this
        injection e with e
        subst e
        simp only [List.getElem_map, hx] at hc
        exact (Below.cell hg1 hblk).trans hc
      have HC := Lib.hid (fun W (h : Below (w.heap.size + 1 + 1) w1 W) => (⟨(hrow.below h (by omega)).cell 1, (Below.cell h (Nat.lt_of_lt_of_le hblk (by omega))).trans hcw1⟩ : W.cell? ⟨w.heap.size, 1, none⟩ = some (.slice (some ad) n c) ∧ W.cell? (ad.add j) = some (encStr x)))
      have HD := Lib.hid (fun W (h : Row W (w.heap.size + 1 + 1) 25 [.bool b, .slice A' j c']) => (h.cell 1 : W.cell? ⟨w.heap.size + 1 + 1, 1, none⟩ = some (.slice A' j c')))
      generalize hxs : ((L.take j).map mkS).map encStr = xs at *
      clear hcw1 hrowr
      go_wp2_with fail
      clear hc1 hc3
      refine Vc.wp_region_split ⟨Gr, fun _ W W' => W.grownBy W' (blkOf A'), fun k W => Below (w.heap.size + 1 + 1) w1 W ∧ Row W (w.heap.size + 1 + 1) 25 [.bool b, .slice A' j c'] ∧ (k = 0 → Own W (w.heap.size + 1 + 1 + 1) 9 1 A' j c' xs), [13]⟩ 15 [] (by kernel_rfl) (by kernel_rfl) (by kernel_rfl) (by decide) (by simp) (by simp) (by simp) (fun _ _ h => h.size) (fun _ _ _ h => h.size) (fun _ _ _ h h' => ⟨Below.andGr h'.1 h (by have := h'.2.1.lt; omega), h'.2.1.gr h, fun hk => (h'.2.2 hk).gr h⟩) ⟨Below.andGr hbel (Gr.draw _) (by have := hacr.lt; omega), hacr.gr (Gr.draw _), fun _ => ho.gr (Gr.draw _)⟩ ?_
      repeat
        refine Vc.Walk.pure (v := ?_) (fun _ => Gr.rfl' _) rfl (by first | exact Vc.GuardYes.no rfl | exact Vc.GuardYes.yes rfl rfl) rfl rfl ?_ ?_
        rotate_left
        · intro _ W hI
          (have q := hI.g; clear hI; have y1 := HC.out _ q.1; have y2 := HD.out _ q.2.1; obtain ⟨y3, y4⟩ := y1; clear q)
          go_simp
          exact rfl
      refine Vc.Walk.call (.fits (Vc.At 0 fun v W => ∃ g, v = .slice (some ⟨g, 0, none⟩) 5 5 ∧ Row W g 9 (strs5.map encStr))) (Vc.At.stable (fun u W W' hl hf => by obtain ⟨g, e, hR⟩ := hf; exact ⟨g, e, hR.gr hl⟩)) (.no rfl) rfl rfl ?_ ?_
      · intro k W hI
        have hk := hI.le 0 13 rfl (by kernel_rfl)
        obtain rfl : k = 0 := by omega
        clear hI
        go_simp
        exact ⟨⟨Nat.le_refl _, fun _ => ⟨_, rfl, Row.new W _ (strs5.map encStr)⟩⟩, Gr.alloc1 _ _⟩
      repeat
        refine Vc.Walk.pure (v := ?_) (fun _ => Gr.rfl' _) rfl (by first | exact Vc.GuardYes.no rfl | exact Vc.GuardYes.yes rfl rfl) rfl rfl ?_ ?_
        rotate_left
        · intro _ W hI
          (have q := hI.g; clear hI; have y1 := HC.out _ q.1; have y2 := HD.out _ q.2.1; obtain ⟨y3, y4⟩ := y1; clear q)
          go_simp
          exact rfl
      refine Vc.Walk.call (.is (.int .i64 k5)) trivial (.no rfl) rfl rfl ?_ ?_
      · intro k W hI
        clear hI
        go_simp
        refine (hW.out W).mono ?_
        rintro e W' ⟨rfl, rfl⟩
        exact ⟨_, rfl, rfl, Gr.rfl' _⟩
      refine Vc.Walk.any (.fits (Vc.At 0 fun v W => ∃ g, v = .pointer (some ⟨g, k5, none⟩) ∧ Row W g 9 (strs5.map encStr))) (Vc.At.stable (fun u W W' hl hf => by obtain ⟨g, e, hR⟩ := hf; exact ⟨g, e, hR.gr hl⟩)) (.no rfl) ?_ ?_
      · intro ρ k W hI hf
        have hk := hI.le 0 13 rfl (by kernel_rfl)
        obtain rfl : k = 0 := by omega
        obtain ⟨⟨_, hf1⟩, hρ2, _⟩ := hf
        obtain ⟨g, hρ1, hR⟩ := hf1 (Nat.le_refl _)
        have e1 : ρ (.tmp 21) = .slice (some ⟨g, 0, none⟩) 5 5 := hρ1
        have e2 : ρ (.tmp 28) = .int .i64 k5 := hρ2
        have h5 : (k5 : Int) < 5 := by omega
        clear hI hf1 hρ1 hρ2
        go_simp
        exact ⟨⟨Nat.le_refl _, fun _ => ⟨_, rfl, hR⟩⟩, Gr.rfl' _⟩
      refine Vc.Walk.any (.is (encStr y)) trivial (.no rfl) ?_ ?_
      · intro ρ k W hI hf
        have hk := hI.le 0 13 rfl (by kernel_rfl)
        obtain rfl : k = 0 := by omega
        obtain ⟨⟨_, hf1⟩, _⟩ := hf
        obtain ⟨g, hρ1, hR⟩ := hf1 (Nat.le_refl _)
        have e1 : ρ (.tmp 29) = .pointer (some ⟨g, k5, none⟩) := hρ1
        have hcell : W.cell? ⟨g, k5, none⟩ = some (encStr y) := (hR.cell k5).trans hat.out
        clear hI hf1 hρ1
        go_simp
        first | exact ⟨rfl, Gr.rfl' _⟩ | exact Gr.rfl' _
      refine Vc.Walk.call (.fits (Vc.At 0 fun v W => ∃ g, v = .slice (some ⟨g, 0, none⟩) 1 1 ∧ Row W g 9 [encStr y])) (Vc.At.stable (fun u W W' hl hf => by obtain ⟨g, e, hR⟩ := hf; exact ⟨g, e, hR.gr hl⟩)) (.no rfl) rfl rfl ?_ ?_
      · intro k W hI
        have hk := hI.le 0 13 rfl (by kernel_rfl)
        obtain rfl : k = 0 := by omega
        clear hI
        go_simp
        exact ⟨⟨Nat.le_refl _, fun _ => ⟨_, rfl, Row.new W _ [encStr y]⟩⟩, Gr.alloc1 _ _⟩
      refine Vc.Walk.any (.fits (Vc.At 1 fun v W => ∃ A2 c2, v = .slice A2 (j + 1) c2 ∧ Own W (w.heap.size + 1 + 1 + 1) 9 1 A2 (j + 1) c2 (xs ++ [encStr y]))) (Vc.At.stable (fun u W W' hl hf => by obtain ⟨A2, c2, e, h⟩ := hf; exact ⟨A2, c2, e, h.gr hl⟩)) (.no rfl) ?_ ?_
      · intro ρ k W hI hf
        obtain rfl := hI.eq 0 rfl
        obtain ⟨q1, q2, q3⟩ := hI.g
        obtain ⟨hρ1, ⟨_, hf1⟩, _⟩ := hf
        obtain ⟨g, hρ2, hR⟩ := hf1 (Nat.le_refl _)
        have e1 : ρ (.tmp 20) = .slice A' j c' := hρ1
        have e2 : ρ (.tmp 31) = .slice (some ⟨g, 0, none⟩) 1 1 := hρ2
        obtain ⟨A2, c2, W', hrun, ho2, hk2⟩ := run_append (P := Try.prog) W (w.heap.size + 1 + 1 + 1) 23 23 9 i0 _ 1 16 Try.underlying23 hi hz0 hz1 hz2 rfl (by omega) A' j c' xs (q3 rfl) (some ⟨g, 0, none⟩) 1 1 [encStr y] rfl (Rd.of_row' hR) (by simp [Value.oneCell']) (by omega) (by unfold maxLen; omega) (by have := q2.lt; omega)
        have hbl : ∀ g, blkOf A' = some g → w.heap.size + 1 + 1 + 1 ≤ g := fun g hg => ((q3 rfl).blk g hg).1
        clear hI hf1 hρ1 hρ2
        unfold execOp
        simp only [resolve, invoke, builtin, Sem.run_bind, Sem.run_pure, Result.andThen_ok, List.map_toArray, List.map_cons, List.map_nil, e1, e2, hrun, Vc.okUpon]
        exact ⟨⟨Nat.le_refl _, fun _ => ⟨_, _, rfl, ho2⟩⟩, hk2.grown, Below.grown q1 hk2.grown (by have := q2.lt; omega) (fun g hg => by have := hbl g hg; omega), q2.keepOwn hk2.grown (fun g hg => by have := hbl g hg; omega), fun h => (by cases h)⟩
      repeat
        refine Vc.Walk.pure (v := ?_) (fun _ => Gr.rfl' _) rfl (by first | exact Vc.GuardYes.no rfl | exact Vc.GuardYes.yes rfl rfl) rfl rfl ?_ ?_
        rotate_left
        · intro _ W hI
          (have q := hI.g; clear hI; have y1 := HC.out _ q.1; have y2 := HD.out _ q.2.1; obtain ⟨y3, y4⟩ := y1; clear q)
          go_simp
          exact rfl
      intro W hW2
      obtain ⟨hb, hR3, _⟩ := hW2
      simp only [List.reverse_cons, List.reverse_nil, List.nil_append, List.cons_append, Vc.finish, Act.put, List.setIfInBounds_toArray, List.set_cons_zero, List.set_cons_succ]
      rintro u21 _ u29 _ u31 _ u32 ⟨_, hu⟩ _
      obtain ⟨A2, c2, rfl, ho2⟩ := hu (Nat.le_refl _)
      simp only [List.drop_succ_cons, List.drop_zero]
      have hq0 : W.cell? ⟨w.heap.size + 1 + 1, 1, none⟩ = some (.slice A' j c') := hR3.cell 1
      have hf0 : W.frozen? ⟨w.heap.size + 1 + 1, 1, none⟩ = false := hR3.frozen 1
      have hRn := Lib.hid (hR3.set 1 (.slice A2 (j + 1) c2))
      have hon := Lib.hid (ho2.keep (only_set W (w.heap.size + 1 + 1) 1 (.slice A2 (j + 1) c2)) (fun g hg e => by have := (ho2.blk g hg).1; injection e with e; omega))
      have hbn := Lib.hid (Below.setCell_row hb hR3 (.slice A2 (j + 1) c2))
      clear ho2 hu
      go_wp2_with fail
      go_roundw
      case rel =>
        refine ⟨j + 1, by omega, by omega, by go_num, A2, c2, hbn.out, hRn.out, ?_⟩
        rw [hst.out, List.map_append]
        exact hxs ▸ hon.out
      case measure => simp [intOf]; omega
    · have hL : L.take j = L.take 6 := by
        have hj' : j = min n 6 := by omega
        by_cases h : n ≤ 6
        · rw [List.take_of_length_le (by have := hn.out; omega), List.take_of_length_le (by have := hn.out; omega)]
        · rw [show j = 6 by omega]
      rw [hL] at ho
      have hresr : Row wr (w.heap.size + 1) 25 [.bool false, .slice none 0 0] := hres.below hbel (by omega)
      have hGr : Gr w wr := hg1.trans (hbel.mono (by omega))
      have hq0 : wr.cell? ⟨w.heap.size + 1, 0, none⟩ = some (.bool false) := hresr.cell 0
      have hq1 : wr.cell? ⟨w.heap.size + 1, 1, none⟩ = some (.slice none 0 0) := hresr.cell 1
      have hf0 : wr.frozen? ⟨w.heap.size + 1, 0, none⟩ = false := hresr.frozen 0
      have hf1 : wr.frozen? ⟨w.heap.size + 1, 1, none⟩ = false := hresr.frozen 1
      have hc4 : wr.cell? ⟨w.heap.size + 1 + 1, 0, none⟩ = some (.bool b) := hacr.cell 0
      obtain ⟨hR, ho3, hG⟩ := res2 hresr hGr (by omega) (.bool b) (.slice A' j c')
      replace hR := Lib.hid hR
      replace ho3 := Lib.hid ho3
      replace hG := Lib.hid hG
      by_cases hjn : j < n
      all_goals
        (try have h6 : 6 ≤ (j : Int) := by omega)
        clear hlt
        go_wp2_with fail
        have hs0 := hR.out.cell 0
        have hs1 := hR.out.cell 1
        simp only [List.getElem?_cons_zero, List.getElem?_cons_succ] at hs0 hs1
        (try simp only [Exit.inBlock, Exit.then])
        refine bodyPost_ret (v := ?_) ?_ rfl ?_
        rotate_left
        · simp [results, Try.results17, go_sem, hs0, hs1]
          (try rfl)
        exact ⟨A', j, c', rfl, Lib.hid (by simpa [mkL] using ho.1), ho.rd.keepStr hresr (by simp) ho3.out, ho.le.1, ho.le.2, hG.out⟩
end Go.Proofs.Ytbjkfllghkcgcaa
