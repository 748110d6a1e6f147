/- VfsNames: the walk. -/
import Derived.Test.YtopellbmmkflgaaVfK
import Derived.Laws.Cover1
import Derived.Sort.Walk0
set_option linter.unusedVariables false
set_option linter.unusedSimpArgs false
namespace Go.Proofs.Ytopellbmmkflgaa
open Go.RowKit Go.Maps Go.Sort
attribute [local go_sem] Vc.known_tmp Vc.known_const Vc.known_func Vc.known_global Vc.lk Vc.okUpon Vc.Fact.holds
structure NI (s : V) (j : Nat) : Prop where
  dead : s.dead = false
  stop : s.stop = 0
  room : s.room = 10000
  ops : s.ops ≤ j
  one : ∀ p ∈ s.now, p.1 ≠ [] ∧ p.1.length ≤ 20 ∧ p.2.length = 1
section
variable {s : V} {j : Nat} {x b : Str}
theorem used_ones {l : Files} (h : ∀ p ∈ l, p.1 ≠ [] ∧ p.1.length ≤ 20 ∧ p.2.length = 1) : l.used = l.length := by
  induction l with
  | nil => rfl
  | cons y r ih =>
    have h1 := ih fun p hp => h p (by simp [hp])
    have h2 := (h y (by simp)).2.2
    simp only [Files.used, List.map_cons, List.sum_cons, List.length_cons] at h1 ⊢
    omega
theorem NI.new : NI (V.new 10000) 0 := ⟨rfl, rfl, rfl, Nat.le_refl _, by simp [V.new]⟩
theorem NI.more (h : NI s j) : NI s (j + 1) := ⟨h.dead, h.stop, h.room, Nat.le_succ_of_le h.ops, h.one⟩
theorem NI.bad (h : NI s j) (hx : x = [] ∨ 20 < x.length) : s.write x b = (s, 12) := by
  unfold V.write
  rw [if_neg (by rw [h.dead]; simp), if_pos hx]
theorem NI.fits (h : NI s j) (hok : s.Ok) (hx : ¬ (x = [] ∨ 20 < x.length)) (hb : b.length ≤ 1) (hj : j ≤ 100) : s.write x b = (s.done ⟨x, b, false⟩, 0) := by
  have h1 := used_ones h.one
  have h2 := Nat.le_trans hok.nowL h.ops
  have hd : (s.done ⟨x, b, false⟩).dead = false := by
    show (if s.stop = 0 then s.dead else decide (s.stop = 1)) = false
    rw [if_pos h.stop, h.dead]
  unfold V.write
  rw [if_neg (by rw [h.dead]; simp), if_neg hx, if_neg (by rw [h.room, h1]; omega), hd]
  rfl
theorem NI.good (h : NI s j) (hok : s.Ok) (hx : ¬ (x = [] ∨ 20 < x.length)) (hb : b.length = 1) : NI (s.done ⟨x, b, false⟩) (j + 1) := by
  refine ⟨?_, ?_, h.room, Nat.succ_le_succ h.ops, fun p hp => ?_⟩
  · show (if s.stop = 0 then s.dead else decide (s.stop = 1)) = false
    rw [if_pos h.stop, h.dead]
  · show s.stop - 1 = 0
    rw [h.stop]
  · rcases mem_put.1 hp with rfl | hp
    · exact ⟨fun e => hx (.inl e), by simp only; omega, hb⟩
    · exact h.one p hp.1
end
theorem str_at {W : World} {A : Option Addr} {b : Str} {n : Nat} (c : Nat) (hn : b.length = n) (h : Rd W A (b.map bv)) : (convert 31 9 (.slice A n c)).run Try.prog W = .ok (encStr b) W :=
  run_str h _ _ _ n c hn.symm Try.underlying31 Try.underlying5 Try.underlying9
theorem sv_str (x : ByteArray) : sv x = encStr x.data.toList := by simp [sv, encStr]
theorem own_cells_str {W : World} {B n c : Nat} {A : Option Addr} {N : List Str} (h : Own W B 9 1 A n c (N.map encStr)) (hn : 0 < n) : ∃ g, A = some ⟨g, 0, none⟩ ∧ ∀ i x, N[i]? = some x → W.cell? ⟨g, i, none⟩ = some (encStr x) := by
  rcases h.2 with ⟨_, h0, _⟩ | ⟨g, rest, rfl, hb, hr, _⟩
  · omega
  · refine ⟨g, rfl, fun i x hx => ?_⟩
    have hi := (List.getElem?_eq_some_iff.1 hx).1
    rw [hr.cell, List.getElem?_append_left (by simpa using hi), List.getElem?_map, hx]
    rfl
theorem rising_less {l : Files} (h : l.Rising) {i : Nat} (hi : i + 1 < l.length) : Op.bytesLess (l.map (·.1))[i]! (l.map (·.1))[i + 1]! = true := by
  rw [bytesLess_eq]
  refine decide_eq_true (bb_lt _ _ ?_)
  have h1 := (List.pairwise_iff_getElem.1 h) i (i + 1) (by omega) hi (by omega)
  simpa [getElem!_pos, hi, (by omega : i < l.length)] using h1
set_option maxRecDepth 20000 in
set_option maxHeartbeats 4000000 in
theorem vfsNames.walk (w : World) (A : Option Addr) (n c : Nat) (L : List ByteArray) (hn : Hid (L.length = n)) (hr : Rd w A (L.map sv)) (hsz : ∀ s ∈ L, s.size ≤ maxLen) (hlc : n ≤ c) (hcm : c ≤ maxLen) (m : Int) (m0 : -9223372036854775808 ≤ m) (m1 : m ≤ 9223372036854775807) :
    Calls Try.prog 5 #[.slice A n c, .int .i64 m] w fun e w' => e = .returned (.bool true) ∧ Gr w w' := by
  have hnc := Nat.le_trans hlc hcm
  unfold maxLen at hnc
  have hK := Lib.hid (known_any w)
  go_enter Try.func5, Try.ntmps5
  go_wp2_with (first
    | (go_at_call 10; (with_reducible refine hK.out.mono ?_); rintro e w1 ⟨rfl, hg1⟩; clear hK
       have hN := Lib.hid (new_any 10000 w1))
    | (go_at_call 12; (with_reducible refine hN.out.mono ?_); rintro e w3 ⟨p, X, rfl, ha, hg3, hx⟩
       have hS := Lib.hid (Sv.new ha (hg1.trans' hg3) (fun i hi => Nat.le_trans hg1.size (hx i hi)))
       clear hN ha hx))
  go_loopw [6] (fun i wr => ∃ (j : Nat) (X : Nat → Prop) (s : V), j ≤ n ∧ j ≤ 15 ∧ i = .int .i64 j ∧ Hid (Sv w wr X p s) ∧ Hid (NI s j)) (fun i _ => n - (intOf i).toNat)
  case atStart => exact ⟨0, X, _, by omega, by omega, rfl, hS, Lib.hid NI.new⟩
  case round =>
    obtain ⟨j, X, s, hj, hj15, rfl, hS, hI⟩ := hrel
    by_cases hlt : j < n ∧ j < 15
    · obtain ⟨hlt, hlt15⟩ := hlt
      have hjl : j < L.length := by have := hn.out; omega
      obtain ⟨ad, rfl, hc⟩ := (hr.gr hS.out.gr).at_ (k := j) (by simpa using hjl)
      rw [List.getElem_map, sv_str] at hc
      have hxl : L[j].data.toList.length ≤ maxLen := by have := hsz L[j] (List.getElem_mem hjl); simpa using this
      unfold maxLen at hxl
      generalize L[j].data.toList = x at *
      by_cases h60 : 60 < x.length
      · have h60' : (60 : Int) < x.length := by omega
        go_wp2_with fail
        go_ret
        exact ⟨rfl, hS.out.gr⟩
      · have h60' : ¬ (60 : Int) < x.length := by omega
        have hcell2 := (Gr.alloc1 wr (.cells #[.int .u8 1] 5)).cell hc
        have HW := Lib.hid (write_any (hS.out.more (Gr.alloc1 wr (.cells #[.int .u8 1] 5))).at_ ⟨Nat.le_trans hI.out.ops (by omega), by rw [hI.out.stop]; omega⟩ x (by unfold maxLen; omega) (some ⟨wr.heap.size, 0, none⟩) 1 1 [1] (Lib.hid rfl) (Rd.of_row' (t := 5) (Row.new wr 5 [.int .u8 1])) (by omega))
        by_cases hx0 : x = []
        · rw [hI.out.bad (.inl hx0)] at HW
          subst hx0
          go_wp2_with (go_at_call 13; (with_reducible refine HW.out.mono ?_); rintro e V3 ⟨rfl, X2, ha, hm⟩)
          go_roundw
          case rel => exact ⟨j + 1, X2, s, by omega, by omega, by simp, Lib.hid ((hS.out.more (Gr.alloc1 wr _)).step ha hm), Lib.hid hI.out.more⟩
          case measure => simp [intOf]; omega
        · have hxp : 0 < x.length := List.length_pos_iff.2 hx0
          have hx0' : ((x.length : Int) == 0) = false := by simp; exact hx0
          by_cases h20 : 20 < x.length
          · rw [hI.out.bad (.inr h20)] at HW
            have h20' : (20 : Int) < x.length := by omega
            go_wp2_with (go_at_call 13; (with_reducible refine HW.out.mono ?_); rintro e V3 ⟨rfl, X2, ha, hm⟩)
            go_roundw
            case rel => exact ⟨j + 1, X2, s, by omega, by omega, by simp, Lib.hid ((hS.out.more (Gr.alloc1 wr _)).step ha hm), Lib.hid hI.out.more⟩
            case measure => simp [intOf]; omega
          · have h20' : ¬ (20 : Int) < x.length := by omega
            have hg := hI.out.good (x := x) (b := [1]) hS.out.ok (fun h => h.elim hx0 h20) rfl
            rw [hI.out.fits hS.out.ok (fun h => h.elim hx0 h20) (by simp) (by omega)] at HW
            go_wp2_with (go_at_call 13; (with_reducible refine HW.out.mono ?_); rintro e V3 ⟨rfl, X2, ha, hm⟩)
            go_roundw
            case rel => exact ⟨j + 1, X2, _, by omega, by omega, by simp, Lib.hid ((hS.out.more (Gr.alloc1 wr _)).step ha hm), Lib.hid hg⟩
            case measure => simp [intOf]; omega
    · have HNa := Lib.hid (names_any hS.out.at_ ⟨Nat.le_trans hI.out.ops (by omega), by rw [hI.out.stop]; omega⟩)
      have fin : ∀ (h : ¬ (j < n ∧ j < 15)), (j < n ∧ ¬ j < 15) ∨ ¬ j < n := fun h => by omega
      rcases fin hlt with ⟨h1, h2⟩ | h1
      all_goals
        go_wp2_with (go_at_call 17; (with_reducible refine HNa.out.mono ?_); rintro e w5 ⟨A5, m5, c5, rfl, hm5, ho5, hg5⟩
                     have hS5 := Lib.hid (hS.out.more hg5)
                     replace hm5 := Lib.hid hm5
                     have hm15 : m5 ≤ 15 := by have := hm5.out; have := hS.out.ok.nowL; have := hI.out.ops; omega
                     have hok := hS.out.ok
                     clear HNa hS)
        go_loopw [9] (fun i wq => ∃ q : Nat, q ≤ m5 ∧ i = .int .i64 q ∧ Gr w5 wq) (fun i _ => m5 - (intOf i).toNat)
        case atStart => exact ⟨0, by omega, rfl, Gr.rfl' _⟩
        case round =>
          obtain ⟨q, hq, rfl, hgq⟩ := hrel
          by_cases hql : q < m5
          · obtain ⟨g5, hA5, hcells⟩ := own_cells_str ho5 (by omega)
            subst hA5
            have hqn : q < s.now.length := by have := hm5.out; omega
            have hone := hI.out.one s.now[q] (List.getElem_mem hqn)
            have y0 := hgq.cell (hcells q s.now[q].1 (by rw [List.getElem?_map, List.getElem?_eq_getElem hqn]; rfl))
            have hless : ∀ (h : 0 < q), ∃ z, wr.cell? ⟨g5, q - 1, none⟩ = some (encStr z) ∧ Op.bytesLess z s.now[q].1 = true := fun h =>
              ⟨s.now[q - 1].1, hgq.cell (hcells (q - 1) _ (by rw [List.getElem?_map, List.getElem?_eq_getElem (by omega)]; rfl)), by
                rw [bytesLess_eq]
                exact decide_eq_true (bb_lt _ _ ((List.pairwise_iff_getElem.1 hok.now) (q - 1) q (by omega) hqn (by omega)))⟩
            generalize s.now[q].1 = x at *
            have hx1 : ((x.length : Int) == 0) = false := by have := hone.1; simp; exact this
            have hx2 : ¬ (20 : Int) < (x.length : Int) := by have := hone.2.1; omega
            have i1 : (q : Int) < (m5 : Int) := by omega
            by_cases hq0 : q = 0
            · subst hq0
              go_wp2_with fail
              refine Vc.wp_region_facts ⟨fun W W' => W = W', fun _ W W' => W = W', fun _ W => W = wr.drew, []⟩ (by kernel_rfl) (by kernel_rfl) (fun _ _ _ h h' => h ▸ h') rfl ?_
              have y0d : wr.drew.cell? ⟨g5, 0, none⟩ = some (encStr x) := y0
              clear y0
              repeat
                refine Vc.Walk.pure (v := ?_) (fun _ => rfl) rfl (by first | exact Vc.GuardYes.no rfl | exact Vc.GuardYes.yes rfl rfl) rfl rfl ?_ ?_
                rotate_left
                · intro _ W hI
                  (obtain rfl := hI.g; clear hI)
                  go_simp
                  exact rfl
              iterate 10 refine Vc.Walk.skip (fun _ => rfl) rfl rfl rfl (by decide) ?_
              repeat
                refine Vc.Walk.pure (v := ?_) (fun _ => rfl) rfl (by first | exact Vc.GuardYes.no rfl | exact Vc.GuardYes.yes rfl rfl) rfl rfl ?_ ?_
                rotate_left
                · intro _ W hI
                  (obtain rfl := hI.g; clear hI)
                  go_simp
                  exact rfl
              rintro V rfl
              simp only [List.reverse_cons, List.reverse_nil, List.nil_append, List.cons_append, Vc.finish, Act.put, List.setIfInBounds_toArray, List.set_cons_zero, List.set_cons_succ]
              go_wp2_with fail
              go_roundw
              case rel => exact ⟨1, by omega, by simp, hgq.trans' (Gr.draw _)⟩
              case measure => simp [intOf]; omega
            · obtain ⟨z, y1, hbl⟩ := hless (by omega)
              obtain ⟨q', rfl⟩ : ∃ q', q = q' + 1 := ⟨q - 1, by omega⟩
              have y1 : wr.cell? ⟨g5, q', none⟩ = some (encStr z) := y1
              go_wp2_with fail
              refine Vc.wp_region_facts ⟨fun W W' => W = W', fun _ W W' => W = W', fun _ W => W = wr.drew, []⟩ (by kernel_rfl) (by kernel_rfl) (fun _ _ _ h h' => h ▸ h') rfl ?_
              have y0d : wr.drew.cell? ⟨g5, q' + 1, none⟩ = some (encStr x) := y0
              have y1d : wr.drew.cell? ⟨g5, q', none⟩ = some (encStr z) := y1
              have i2 : (q' : Int) < (m5 : Int) := by omega
              have hw1 : IntKind.i64.wrap (q' : Int) = (q' : Int) := by rw [IntKind.wrap_i64]; omega
              have hw2 : IntKind.i64.wrap ((q' : Int) + 1 - 1) = (q' : Int) := by rw [IntKind.wrap_i64]; omega
              clear y0 y1
              repeat
                refine Vc.Walk.pure (v := ?_) (fun _ => rfl) rfl (by first | exact Vc.GuardYes.no rfl | exact Vc.GuardYes.yes rfl rfl) rfl rfl ?_ ?_
                rotate_left
                · intro _ W hI
                  (obtain rfl := hI.g; clear hI)
                  go_simp
                  exact rfl
              rintro V rfl
              simp only [List.reverse_cons, List.reverse_nil, List.nil_append, List.cons_append, Vc.finish, Act.put, List.setIfInBounds_toArray, List.set_cons_zero, List.set_cons_succ]
              go_wp2_with fail
              go_roundw
              case rel => exact ⟨q' + 1 + 1, by omega, by simp, hgq.trans' (Gr.draw _)⟩
              case measure => simp [intOf]; omega
          · obtain rfl : q = m5 := by omega
            have hS6 := Lib.hid (hS5.out.more hgq)
            have HU := Lib.hid (used_any hS6.out.at_ ⟨Nat.le_trans hI.out.ops (by omega), by rw [hI.out.stop]; omega⟩)
            rw [used_ones hI.out.one, ← hm5.out] at HU
            have HWi := Lib.hid (fun W => within1_any m 3 W m0 m1 (by decide) (by decide))
            have hk0 := Int.emod_nonneg m (show (3 : Int) ≠ 0 by decide)
            have hk1 := Int.emod_lt_of_pos m (show (0 : Int) < 3 by decide)
            obtain ⟨k, hk⟩ : ∃ k : Nat, m % 3 = (k : Int) := ⟨(m % 3).toNat, by omega⟩
            rw [hk] at HWi hk0 hk1
            clear hk
            obtain ⟨i0, hi0, hz0, hz1, hz2⟩ := info_parts info_u8
            have HN9 := Lib.hid (fun W => new_any 9 W)
            have hpos : List.replicate (20 + k) (0 : UInt8) ≠ [] := by simp
            have hrem : (V.new 9).remove [110, 111, 110, 101] = (V.new 9, 2) := rfl
            by_cases hk00 : k = 0
            · subst hk00
              go_wp2_with (first
                | (go_at_call 14; (with_reducible refine HU.out.mono ?_); rintro e w6 ⟨rfl, hg6⟩
                   have hS7 := Lib.hid (hS6.out.more hg6)
                   clear HU hS6)
                | (go_at_call 11; (with_reducible refine (HWi.out _).mono ?_); rintro e w7 ⟨rfl, rfl⟩; clear HWi)
                | (at_make; refine wpList_make_row _ rfl _ _ _ rfl 5 i0 _ Try.underlying31 hi0 hz0 hz1 rfl _ _ _ _ 20 rfl rfl (by simp) (by simp) (by rw [hz2]; omega) (by unfold maxLen; omega) ?_
                   intro w8 hrow8 hg8 _
                   have hS8 := Lib.hid (hS7.out.more hg8)
                   have hst := str_at 20 (List.length_replicate (n := 20) (a := (0 : UInt8))) (by rw [List.map_replicate]; exact Rd.of_row' hrow8)
                   have HW := Lib.hid (write_any hS8.out.at_ ⟨Nat.le_trans hI.out.ops (by omega), by rw [hI.out.stop]; omega⟩ (List.replicate 20 0) (by rw [List.length_replicate]; unfold maxLen; omega) none 0 0 [] (Lib.hid rfl) (Rd.nil _ _) (by omega))
                   rw [hI.out.fits hok (fun h => h.elim hpos (by simp)) (by simp) (by omega)] at HW
                   have hzl : (List.replicate 20 (0 : UInt8)).length = 20 := List.length_replicate
                   generalize List.replicate 20 (0 : UInt8) = zz at hst HW hzl
                   clear hS7)
                | (go_at_call 13; (with_reducible refine HW.out.mono ?_); rintro e w9 ⟨rfl, X9, ha9, hm9⟩
                   have hG9 := (hS8.out.step ha9 hm9).gr
                   clear HW ha9 hm9 hS8)
                | (go_at_call 12; (with_reducible refine (HN9.out _).mono ?_); rintro e wa ⟨pa, Xa, rfl, ha, hga, hxa⟩
                   have hSa := Lib.hid (Sv.new ha (hG9.trans' hga) (fun i hi => Nat.le_trans hG9.size (hxa i hi)))
                   have HRm := Lib.hid (remove_any ha ⟨by decide, by decide⟩ [110, 111, 110, 101] (by decide))
                   rw [hrem] at HRm
                   clear HN9 ha hxa)
                | (go_at_call 18; (with_reducible refine HRm.out.mono ?_); rintro e wb ⟨rfl, Xb, hb, hmb⟩))
              go_ret
              exact ⟨rfl, (hSa.out.step hb hmb).gr⟩
            · have hk20 : ((20 + (k : Int)) == 20) = false := by simp; omega
              go_wp2_with (first
                | (go_at_call 14; (with_reducible refine HU.out.mono ?_); rintro e w6 ⟨rfl, hg6⟩
                   have hS7 := Lib.hid (hS6.out.more hg6)
                   clear HU hS6)
                | (go_at_call 11; (with_reducible refine (HWi.out _).mono ?_); rintro e w7 ⟨rfl, rfl⟩; clear HWi)
                | (at_make; refine wpList_make_row _ rfl _ _ _ rfl 5 i0 _ Try.underlying31 hi0 hz0 hz1 rfl _ _ _ _ (20 + k) rfl rfl (by simp) (by simp) (by rw [hz2]; omega) (by unfold maxLen; omega) ?_
                   intro w8 hrow8 hg8 _
                   have hS8 := Lib.hid (hS7.out.more hg8)
                   have hst := str_at (20 + k) (List.length_replicate (n := 20 + k) (a := (0 : UInt8))) (by rw [List.map_replicate]; exact Rd.of_row' hrow8)
                   have HW := Lib.hid (write_any hS8.out.at_ ⟨Nat.le_trans hI.out.ops (by omega), by rw [hI.out.stop]; omega⟩ (List.replicate (20 + k) 0) (by rw [List.length_replicate]; unfold maxLen; omega) none 0 0 [] (Lib.hid rfl) (Rd.nil _ _) (by omega))
                   rw [hI.out.bad (.inr (by simp; omega))] at HW
                   clear hS7)
                | (go_at_call 13; (with_reducible refine HW.out.mono ?_); rintro e w9 ⟨rfl, X9, ha9, hm9⟩
                   have hG9 := (hS8.out.step ha9 hm9).gr
                   clear HW ha9 hm9 hS8)
                | (go_at_call 12; (with_reducible refine (HN9.out _).mono ?_); rintro e wa ⟨pa, Xa, rfl, ha, hga, hxa⟩
                   have hSa := Lib.hid (Sv.new ha (hG9.trans' hga) (fun i hi => Nat.le_trans hG9.size (hxa i hi)))
                   have HRm := Lib.hid (remove_any ha ⟨by decide, by decide⟩ [110, 111, 110, 101] (by decide))
                   rw [hrem] at HRm
                   clear HN9 ha hxa)
                | (go_at_call 18; (with_reducible refine HRm.out.mono ?_); rintro e wb ⟨rfl, Xb, hb, hmb⟩))
              go_ret
              exact ⟨rfl, (hSa.out.step hb hmb).gr⟩
end Go.Proofs.Ytopellbmmkflgaa
