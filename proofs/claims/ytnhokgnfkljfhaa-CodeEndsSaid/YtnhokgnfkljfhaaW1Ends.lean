/- The walk of CodeEnds. -/
import Derived.Test.YtnhokgnfkljfhaaLaw2
set_option linter.unusedVariables false
set_option linter.unusedSimpArgs false
namespace Go.Proofs.Ytnhokgnfkljfhaa.codeEnds
open Go.RowKit

attribute [local go_sem] Vc.known_tmp Vc.known_const Vc.known_func Vc.known_global Vc.lk Vc.okUpon Vc.Fact.holds

def enc (l : List Int) : List UInt8 := l.flatMap fun z => le (u64 z) 8 ++ [u8 z]
theorem enc_nil : enc [] = [] := rfl
theorem enc_length (l : List Int) : (enc l).length = 9 * l.length := by
  induction l with
  | nil => rfl
  | cons z l ih =>
    have : enc (z :: l) = (le (u64 z) 8 ++ [u8 z]) ++ enc l := by simp [enc]
    rw [this, List.length_append, ih, List.length_append, le_length]
    simp
    omega
theorem enc_snoc {l : List Int} {j : Nat} (h : j < l.length) : enc (l.take (j + 1)) = enc (l.take j) ++ le (u64 l[j]) 8 ++ [u8 l[j]] := by
  unfold enc
  rw [List.take_succ_eq_append_getElem h, List.flatMap_append]
  simp only [List.flatMap_cons, List.flatMap_nil, List.append_nil, List.append_assoc]
theorem enc_drop {l : List Int} {j : Nat} (h : j < l.length) : enc (l.drop j) = le (u64 l[j]) 8 ++ ([u8 l[j]] ++ enc (l.drop (j + 1))) := by
  unfold enc
  rw [List.drop_eq_getElem_cons h]
  simp only [List.flatMap_cons, List.append_assoc]

set_option maxHeartbeats 4000000 in
theorem walk (w : World) (x0 : Int) (h0 : -9223372036854775808 ≤ x0) (h0' : x0 ≤ 9223372036854775807) (x1 : Int) (h1 : -9223372036854775808 ≤ x1) (h1' : x1 ≤ 9223372036854775807) :
    Calls Try.prog 7 #[.int .i64 x0, .int .i64 x1] w fun e w' => e = .returned (.bool true) ∧ Below w.heap.size w w' := by
  obtain ⟨k10, k11⟩ := emod_bounds x1 (show (0 : Int) < 62 by decide)
  have W1 := Lib.hid (fun W => within1_any x1 62 W h1 h1' (by decide) (by decide))
  generalize x1 % 62 = q at *
  go_enter Try.func7, Try.ntmps7
  go_wp2_with (first
    | (go_at_call 11; refine (known1_any _).mono ?_; rintro e w1 ⟨rfl, hg1⟩)
    | (go_at_call 18; (with_reducible refine (W1.out _).mono ?_); rintro e _ ⟨rfl, rfl⟩))
  have hrow := Row.new w1 3 ([x0, 9223372036854775807, -9223372036854775808, 0, -1, wrap64 (2 ^ q.toNat)].map iv)
  have hbd : ∀ z ∈ [x0, 9223372036854775807, -9223372036854775808, 0, -1, wrap64 (2 ^ q.toNat)], -9223372036854775808 ≤ z ∧ z ≤ 9223372036854775807 := by
    intro z hz
    simp only [List.mem_cons, List.not_mem_nil, or_false] at hz
    rcases hz with rfl | rfl | rfl | rfl | rfl | rfl
    all_goals (try unfold wrap64)
    all_goals omega
  have hLl : [x0, 9223372036854775807, -9223372036854775808, 0, -1, wrap64 (2 ^ q.toNat)].length = 6 := rfl
  have hgr2 := hg1.trans' (Gr.alloc1 w1 (.cells ([x0, 9223372036854775807, -9223372036854775808, 0, -1, wrap64 (2 ^ q.toNat)].map iv).toArray 3))
  have hw : w1.alloc (.cells #[Value.int .i64 x0, .int .i64 9223372036854775807, .int .i64 (-9223372036854775808), .int .i64 0, .int .i64 (-1), .int .i64 (wrap64 (2 ^ q.toNat))] 3) =
    w1.alloc (.cells ([x0, 9223372036854775807, -9223372036854775808, 0, -1, wrap64 (2 ^ q.toNat)].map iv).toArray 3) := rfl
  rw [hw]
  clear hw
  generalize [x0, 9223372036854775807, -9223372036854775808, 0, -1, wrap64 (2 ^ q.toNat)] = L at *
  generalize w1.alloc (.cells (L.map iv).toArray 3) = w2 at *
  have hg0 : w.heap.size ≤ w1.heap.size := hg1.size
  generalize w1.heap.size = g0 at *
  go_loopw [6, 7] (fun b i wr => ∃ j : Nat, j ≤ 6 ∧ i = .int .i64 j ∧ ∃ A c, b = .slice A (9 * j) c ∧ Hid ((enc (L.take j)).length = 9 * j) ∧ Rd wr A ((enc (L.take j)).map bv) ∧ Row wr g0 3 (L.map iv) ∧ Gr w wr) (fun _ i _ => 6 - (intOf i).toNat)
  case atStart => exact ⟨0, by omega, rfl, none, 0, rfl, Lib.hid rfl, Rd.nil _ _, hrow, hgr2⟩
  case round =>
    obtain ⟨j, hj, rfl, A, c, rfl, hn, hd, hr, hb⟩ := hrel
    by_cases hlt : j < 6
    · have hjl : j < L.length := by omega
      have hst := enc_snoc hjl
      have hcell : ∀ W, Row W g0 3 (L.map iv) → W.cell? ⟨g0, j, none⟩ = some (.int .i64 L[j]) := by
        intro W h
        rw [h.cell, List.getElem?_map, List.getElem?_eq_getElem hjl]
        rfl
      have hll : (enc (L.take (j + 1))).length = 9 * (j + 1) := by rw [enc_length, List.length_take]; omega
      generalize L[j] = z at *
      generalize enc (L.take j) = bs at *
      generalize hb2 : enc (L.take (j + 1)) = bs2 at *
      replace hb2 := Lib.hid hb2
      have HI : ∀ W, Rd W A (bs.map bv) → Calls Try.prog 12 #[.slice A (9 * j) c, .int .i64 z] W (FreshB W (bs ++ le (u64 z) 8)) := fun W h => wInt_any A (9 * j) c bs z W hn h (by omega)
      have h1l : (bs ++ le (u64 z) 8).length = 9 * j + 8 := by rw [List.length_append, hn.out, le_length]
      generalize bs ++ le (u64 z) 8 = bs1 at *
      have HB : ∀ B n' c' W, Hid (bs1.length = n') → Rd W B (bs1.map bv) → n' ≤ 1000 → Calls Try.prog 14 #[.slice B n' c', .int .i64 z] W (FreshB W bs2) := by
        intro B n' c' W h1 h2 h3
        rw [hst]
        exact wByte_any B n' c' bs1 z W h1 h2 (by omega)
      replace HI := Lib.hid HI
      replace HB := Lib.hid HB
      replace hll := Lib.hid hll
      replace h1l := Lib.hid h1l
      clear hst
      go_wp2_with fail
      refine Vc.wp_region_facts ⟨Gr, fun _ => Gr, fun _ W => Rd W A (bs.map bv) ∧ Row W g0 3 (L.map iv) ∧ Gr w W, []⟩ (by kernel_rfl) (by kernel_rfl) ?_ ?_ ?_
      · rintro k W W' hl ⟨q1, q2, q3⟩
        exact ⟨q1.gr hl, q2.gr hl, q3.trans' hl⟩
      · exact ⟨hd.gr (Gr.draw _), hr.gr (Gr.draw _), hb.trans' (Gr.draw _)⟩
      repeat
        refine Vc.Walk.pure (v := ?_) (fun _ => Gr.rfl' _) rfl (by first | exact Vc.GuardYes.no rfl | exact Vc.GuardYes.yes rfl rfl) rfl rfl ?_ ?_
        rotate_left
        · intro _ W hI
          (obtain ⟨q1, q2, q3⟩ := hI.g; have hc := hcell W q2; clear q1 q2 q3)
          go_simp
          exact rfl
      refine Vc.Walk.call (.fits (Vc.All (RB bs1))) (Vc.All.stable (fun u W W' => RB.gr) (fun k u W W' _ => RB.gr)) (.no rfl) rfl rfl ?_ ?_
      · intro k W hI
        obtain ⟨q1, q2, q3⟩ := hI.g
        clear hI
        go_simp
        refine (HI.out W q1).mono fun e W' h => ?_
        obtain ⟨g, n', rfl, hn', hg, hr', hgr'⟩ := h
        exact ⟨_, rfl, ⟨_, _, _, rfl, hn', Rd.of_row' hr'⟩, hgr'⟩
      repeat
        refine Vc.Walk.pure (v := ?_) (fun _ => Gr.rfl' _) rfl (by first | exact Vc.GuardYes.no rfl | exact Vc.GuardYes.yes rfl rfl) rfl rfl ?_ ?_
        rotate_left
        · intro _ W hI
          (obtain ⟨q1, q2, q3⟩ := hI.g; have hc := hcell W q2; clear q1 q2 q3)
          go_simp
          exact rfl
      refine Vc.Walk.any (.fits (Vc.All (RB bs2))) (Vc.All.stable (fun u W W' => RB.gr) (fun k u W W' _ => RB.gr)) (.no rfl) ?_ ?_
      · intro ρ k W hI hf
        obtain ⟨hρ0, ⟨B, n', c', hρ, hn', hd'⟩, hρ2, _⟩ := hf
        obtain rfl : 9 * j + 8 = n' := h1l.out.symm.trans hn'.out
        have e0 : ρ (.func 14) = .func (.func 14) #[] #[] := hρ0
        have e1 : ρ (.tmp 29) = .slice B (9 * j + 8) c' := hρ
        have e2 : ρ (.tmp 33) = .int .i64 z := hρ2
        have hI2 := Lib.hid hI
        clear hI hρ0 hρ hρ2
        go_simp
        refine (HB.out B (9 * j + 8) c' W hn' hd' (by omega)).mono fun e W' h => ?_
        obtain ⟨g, n', rfl, hn', hg, hr', hgr'⟩ := h
        exact ⟨_, rfl, ⟨_, _, _, rfl, hn', Rd.of_row' hr'⟩, hgr'⟩
      refine Vc.Walk.any (.fits (Vc.All (RB bs2))) (Vc.All.stable (fun u W W' => RB.gr) (fun k u W W' _ => RB.gr)) (.no rfl) ?_ ?_
      · intro ρ k W hI hf
        obtain ⟨⟨B, n', c', hρ, hn', hd'⟩, _⟩ := hf
        have hI2 := Lib.hid hI
        clear hI
        go_simp
        exact ⟨⟨_, _, _, rfl, hn', hd'⟩, Gr.rfl' _⟩
      intro W hW
      obtain ⟨q1, q2, q3⟩ := hW
      simp only [List.reverse_cons, List.reverse_nil, List.nil_append, List.cons_append, Vc.finish, Act.put]
      intro u1 _ u2 _ u3 hu3
      obtain ⟨B, n', c', rfl, hn', hd'⟩ := hu3
      obtain rfl : 9 * (j + 1) = n' := hll.out.symm.trans hn'.out
      go_wp2_with fail
      refine ⟨⟨j + 1, by omega, by go_num, _, _, rfl, by rw [hb2.out]; exact hn', by rw [hb2.out]; exact hd', q2, q3⟩, by simp [intOf]; omega⟩
    · obtain rfl : j = 6 := by omega
      have e6 : L.take 6 = L := List.take_of_length_le (by omega)
      rw [e6] at hn hd
      have hn54 : Hid ((enc L).length = 54) := hn
      clear hn hlt hj
      go_wp2_with (go_at_call 19; (with_reducible refine (new_to (n := 54) hn54.out A c wr hd (by omega)).mono ?_); rintro e w3 ⟨g, rfl, hg, hs3, hgr3⟩; have hb3 := hb.trans' hgr3; have hr3 := hr.gr hgr3; have hg' := Nat.le_trans hb.size hg; have hne : g0 ≠ g := (by have := hr.lt; omega))
      go_loopw [9] (fun i wx => ∃ j : Nat, j ≤ 6 ∧ i = .int .i64 j ∧ RdrAt wx g (enc (L.drop j), 0) ∧ Row wx g0 3 (L.map iv) ∧ Gr w wx) (fun i _ => 6 - (intOf i).toNat)
      case atStart => exact ⟨0, by omega, rfl, hs3, hr3, hb3⟩
      case round =>
        obtain ⟨j, hj, rfl, hs, hr4, hb4⟩ := hrel
        by_cases hlt : j < 6
        · have hjl : j < L.length := by omega
          have hcell : ∀ W, Row W g0 3 (L.map iv) → W.cell? ⟨g0, j, none⟩ = some (.int .i64 L[j]) := by
            intro W h
            rw [h.cell, List.getElem?_map, List.getElem?_eq_getElem hjl]
            rfl
          obtain ⟨hz, hz'⟩ := hbd L[j] (List.getElem_mem hjl)
          rw [enc_drop hjl] at hs
          generalize L[j] = z at *
          generalize hr5 : enc (L.drop (j + 1)) = r at *
          replace hr5 := Lib.hid hr5
          have RI := Lib.hid (rInt_to (intS_enc hz hz' ([u8 z] ++ r)))
          have RB := Lib.hid (rByte_to (byteS_enc z r))
          have HA := and255 z
          clear hz hz'
          generalize z % 256 = zb at *
          generalize le (u64 z) 8 ++ ([u8 z] ++ r) = s1 at *
          generalize [u8 z] ++ r = s2 at *
          go_wp2_with fail
          refine Vc.wp_region_facts ⟨fun W W' => W = W', fun _ W W' => W.grownBy W' (some g), fun k W => Row W g0 3 (L.map iv) ∧ Gr w W ∧ (k = 0 → RdrAt W g (s1, 0)) ∧ (k = 1 → RdrAt W g (s2, 0)) ∧ (k = 2 → RdrAt W g (r, 0)), [1, 9]⟩ (by kernel_rfl) (by kernel_rfl) ?_ ?_ ?_
          · rintro k W W' rfl h
            exact h
          · exact ⟨hr4.gr (Gr.draw _), hb4.trans' (Gr.draw _), fun _ => hs.gr (Gr.draw _), fun h => (by cases h), fun h => (by cases h)⟩
          refine Vc.Walk.pure (v := ?_) (fun _ => rfl) rfl (by first | exact Vc.GuardYes.no rfl | exact Vc.GuardYes.yes rfl rfl) rfl rfl ?_ ?_
          rotate_left
          · intro _ W hI
            clear hI
            go_simp
            exact rfl
          refine Vc.Walk.call (.is (.int .i64 z)) trivial (.no rfl) rfl rfl ?_ ?_
          · intro k W hI
            obtain rfl := hI.eq 0 rfl
            obtain ⟨q1, q2, q3, _⟩ := hI.g
            clear hI
            go_simp
            refine (RI.out g W (q3 rfl)).mono ?_
            rintro e W' ⟨rfl, hs', ho'⟩
            exact ⟨_, rfl, rfl, ho', q1.only ho' hne, q2.only ho' hg', fun h => (by cases h), fun _ => hs', fun h => (by cases h)⟩
          repeat
            refine Vc.Walk.pure (v := ?_) (fun _ => rfl) rfl (by first | exact Vc.GuardYes.no rfl | exact Vc.GuardYes.yes rfl rfl) rfl rfl ?_ ?_
            rotate_left
            · intro _ W hI
              (obtain ⟨q1, q2, _⟩ := hI.g; have hc := hcell W q1; clear q1 q2 hI)
              go_simp
              exact rfl
          refine Vc.Walk.call (.is (.int .i64 zb)) trivial (.yes rfl rfl) rfl rfl ?_ ?_
          · intro k W hI
            obtain rfl := hI.eq 1 rfl
            obtain ⟨q1, q2, _, q4, _⟩ := hI.g
            clear hI
            go_simp
            refine (RB.out g W (q4 rfl)).mono ?_
            rintro e W' ⟨rfl, hs', ho'⟩
            exact ⟨_, rfl, rfl, ho', q1.only ho' hne, q2.only ho' hg', fun h => (by cases h), fun h => (by cases h), fun _ => hs'⟩
          repeat
            refine Vc.Walk.pure (v := ?_) (fun _ => rfl) rfl (by first | exact Vc.GuardYes.no rfl | exact Vc.GuardYes.yes rfl rfl) rfl rfl ?_ ?_
            rotate_left
            · intro _ W hI
              (obtain ⟨q1, q2, _⟩ := hI.g; have hc := hcell W q1; clear q1 q2 hI)
              go_simp
              exact rfl
          intro W hW
          obtain ⟨q1, q2, d1, d2, q5⟩ := hW
          replace q5 := q5 rfl
          clear d1 d2 RI RB
          simp only [List.reverse_cons, List.reverse_nil, List.nil_append, List.cons_append, Vc.finish, Act.put]
          simp
          go_wp2_with fail
          refine ⟨⟨j + 1, by omega, by go_num, by rw [hr5.out]; exact q5, q1, q2⟩, by simp [intOf]; omega⟩
        · obtain rfl : j = 6 := by omega
          have e7 : L.drop 6 = [] := List.drop_eq_nil_of_le (by omega)
          rw [e7, enc_nil] at hs
          have RE := Lib.hid (rEnd_to endS_nil)
          go_wp2_with (go_at_call 21; (with_reducible refine (RE.out _ _ hs).mono ?_); rintro e _ ⟨rfl, rfl⟩)
          go_ret
          exact ⟨rfl, hb4⟩
end Go.Proofs.Ytnhokgnfkljfhaa.codeEnds
