/- VfsOwn: the walk. -/
import Derived.Test.YtopellbmmkflgaaVfK
set_option linter.unusedVariables false
set_option linter.unusedSimpArgs false
namespace Go.Proofs.Ytopellbmmkflgaa
open Go.RowKit Go.Maps Go.Sort
attribute [local go_sem] Vc.known_tmp Vc.known_const Vc.known_func Vc.known_global Vc.lk Vc.okUpon Vc.Fact.holds
theorem Sv.outside' {w0 W W' : World} {X : Nat → Prop} {p g : Nat} {s : V} (h : Sv w0 W X p s) (hg : W.grownBy W' (some g)) (hx : ¬ X g) (hl : w0.heap.size ≤ g) : Sv w0 W' X p s :=
  ⟨h.at_.frame (Tr.of_grown (X := fun i => i = g) hg (fun i e => by injection e with e; exact e.symm)) (fun i hi hxi => hx (hi ▸ hxi)), Below.grown h.gr hg h.gr.size (fun k hk => by cases hk; exact hl), h.hi⟩
theorem Sv.other {w0 W W' : World} {X X' Y : Nat → Prop} {p : Nat} {s : V} (h : Sv w0 W Y p s) (hm : Mv W X W' X') (hd : ∀ i, X i → Y i → False) (hX : ∀ i, X i → w0.heap.size ≤ i) : Sv w0 W' Y p s :=
  ⟨h.at_.frame hm.tr (fun i hx hy => hd i hx hy), h.gr.trans (hm.tr.below h.gr.size hX), h.hi⟩
def so (b : Str) : V := ⟨[([97], b)], [], [⟨[97], b, false⟩], 1000, 0, 1, false⟩
theorem so_eq (b : Str) (h : b.length ≤ 100) : (V.new 1000).write [97] b = (so b, 0) := by
  have h1 : ¬ (1000 < Files.used [] - ((Files.get [] [97]).getD []).length + b.length) := by simp [Files.used, Files.get]; omega
  unfold V.write
  rw [if_neg (by simp [V.new]), if_neg (by simp), if_neg (show ¬ (V.new 1000).room < (V.new 1000).now.used - (((V.new 1000).now.get [97]).getD []).length + b.length from h1)]
  rfl
theorem so_read (b : Str) : (so b).read [97] = (b, true, 0) := rfl
theorem new_read : (V.new 1000).read [97] = ([], false, 0) := rfl
theorem str_at {W : World} {A : Option Addr} {b : Str} {n : Nat} (c : Nat) (hn : b.length = n) (h : Rd W A (b.map bv)) : (convert 31 9 (.slice A n c)).run Try.prog W = .ok (encStr b) W :=
  run_str h _ _ _ n c hn.symm Try.underlying31 Try.underlying5 Try.underlying9
theorem own_row {W : World} {B n c : Nat} {A : Option Addr} {b : Str} (h : Own W B 5 1 A n c (b.map bv)) (hn : 0 < n) : ∃ g rest, A = some ⟨g, 0, none⟩ ∧ Row W g 5 (b.map bv ++ rest) ∧ B ≤ g := by
  rcases h.2 with ⟨_, h0, _⟩ | ⟨g, rest, rfl, hb, hr, _⟩
  · omega
  · exact ⟨g, rest, rfl, hr, hb⟩
theorem row_byte {W : World} {g k : Nat} {b : Str} {rest : List Value} (h : Row W g 5 (b.map bv ++ rest)) (hk : k < b.length) : W.cell? ⟨g, k, none⟩ = some (bv (b.getD k 0)) := by
  rw [h.cell, List.getElem?_append_left (by simpa using hk), List.getElem?_map, List.getElem?_eq_getElem hk, List.getD_eq_getElem?_getD, List.getElem?_eq_getElem hk]
  rfl
set_option maxRecDepth 20000 in
set_option maxHeartbeats 4000000 in
theorem vfsOwn.walk (w : World) (A : Option Addr) (n c : Nat) (b : List UInt8) (hn : Hid (b.length = n)) (hr : Rd w A (b.map bv)) (hlc : n ≤ c) (hcm : c ≤ maxLen) (at_ : Int) (a0 : -9223372036854775808 ≤ at_) (a1 : at_ ≤ 9223372036854775807) :
    Calls Try.prog 4 #[.slice A n c, .int .i64 at_] w fun e w' => e = .returned (.bool true) ∧ Gr w w' := by
  have hK := Lib.hid (known_any w)
  have hnc := Nat.le_trans hlc hcm
  unfold maxLen at hnc hcm
  by_cases h0 : n = 0
  · subst h0
    go_enter Try.func4, Try.ntmps4
    go_wp2_with (go_at_call 10; (with_reducible refine hK.out.mono ?_); rintro e w1 ⟨rfl, hg1⟩; clear hK)
    go_ret
    exact ⟨rfl, hg1⟩
  · have h0' : ((n : Int) == 0) = false := by simp; exact h0
    by_cases h100 : 100 < n
    · have h100' : (100 : Int) < n := by omega
      go_enter Try.func4, Try.ntmps4
      go_wp2_with (go_at_call 10; (with_reducible refine hK.out.mono ?_); rintro e w1 ⟨rfl, hg1⟩; clear hK)
      go_ret
      exact ⟨rfl, hg1⟩
    · have h100' : ¬ (100 : Int) < n := by omega
      obtain ⟨i0, hi0, hz0, hz1, hz2⟩ := info_parts info_u8
      have HN1 := Lib.hid (fun W => new_any 1000 W)
      have HN2 := HN1
      have hk0 := Int.emod_nonneg at_ (show (n : Int) ≠ 0 by omega)
      have hk1 := Int.emod_lt_of_pos at_ (show (0 : Int) < (n : Int) by omega)
      have HI1 := Lib.hid (fun W => within1_any at_ n W a0 a1 (by omega) (by omega))
      obtain ⟨k, hk⟩ : ∃ k : Nat, at_ % (n : Int) = (k : Int) := ⟨(at_ % (n : Int)).toNat, by omega⟩
      rw [hk] at HI1 hk0 hk1
      have hkn : k < n := by omega
      have HI2 := HI1
      have tok := Lib.hid (show (1 : Nat) = 1 from rfl)
      clear hk
      go_enter Try.func4, Try.ntmps4
      go_wp2_with (first
        | (go_at_call 10; (with_reducible refine hK.out.mono ?_); rintro e w1 ⟨rfl, hg1⟩; clear hK)
        | (go_at_call 12; (with_reducible refine (HN1.out _).mono ?_); rintro e w2 ⟨p, X, rfl, ha, hg2, hx⟩
           have hS := Lib.hid (Sv.new ha (hg1.trans' hg2) (fun i hi => Nat.le_trans hg1.size (hx i hi)))
           clear HN1)
        | (go_at_call 12; (with_reducible refine (HN2.out _).mono ?_); rintro e w3 ⟨p2, Y, rfl, hb, hg3, hy⟩
           have hS2 := Lib.hid (hS.out.more hg3)
           have hT2 := Lib.hid (Sv.new hb ((hg1.trans' hg2).trans' hg3) (fun i hi => Nat.le_trans (hg1.trans' hg2).size (hy i hi)))
           have hd2 : ∀ i, X i → Y i → False := fun i hxi hyi => by have := ha.lt i hxi; have := hy i hyi; omega
           have ho := Lib.hid (Own.empty w3 5 1)
           have hr3 := (((hr.gr hg1).gr hg2).gr hg3).gr (Gr.alloc1 w3 (.cells #[] 5))
           have hX3 : ∀ i, X i → i < w3.heap.size := hS2.out.at_.lt
           have hY3 : ∀ i, Y i → i < w3.heap.size := hT2.out.at_.lt
           clear HN2 hS ha hb hx hy)
        | (at_builtin; with_reducible refine wpList_append (o := ⟨some 31, _, _, _, _, _⟩) _ rfl _ _ 31 rfl w3.heap.size 5 i0 _ 1 1 Try.underlying31 hi0 hz0 hz1 hz2 rfl (by omega) _ 0 0 [] rfl ho.out _ n _ (b.map bv) rfl (by have := hn.out; simpa using this) hr3 (bv_one b) (by omega) (by unfold maxLen; omega) (by simp) ?_
           intro A4 c4 w4 ho4 hk4
           have hg4 : Gr w3 w4 := (Gr.alloc1 w3 (.cells #[] 5)).trans (hk4.below (fun g hg => by injection hg with hg; rw [← hg]; exact Nat.le_refl _) (by simp))
           have ho4 := Lib.hid (show Own w4 w3.heap.size 5 1 A4 n c4 (b.map bv) by simpa using ho4)
           have hS4 := Lib.hid (hS2.out.more hg4)
           have hT4 := Lib.hid (hT2.out.more hg4)
           have HW := Lib.hid (write_any hS4.out.at_ ⟨by decide, by decide⟩ [97] (by decide) A4 n c4 b hn ho4.out.rd (by omega))
           rw [so_eq b (by have := hn.out; omega)] at HW
           obtain ⟨g4, rest4, rfl, hrow4, hle4⟩ := own_row ho4.out (by omega)
           have hnX4 : ¬ X g4 := fun hx => by have := hX3 g4 hx; omega
           have hnY4 : ¬ Y g4 := fun hx => by have := hY3 g4 hx; omega
           clear hk4 hr3 ho hS2 hT2)
        | (go_at_call 13; (with_reducible refine HW.out.mono ?_); rintro e w5 ⟨rfl, X5, ha5, hm5⟩
           have hS5 := Lib.hid (hS4.out.step ha5 hm5)
           have hT5 := Lib.hid (hT4.out.other hm5 hd2 hS4.out.hi)
           obtain ⟨hrow5, hnX5⟩ := hm5.row hrow4 hnX4
           have hw35 : w.heap.size ≤ g4 := Nat.le_trans ((hg1.trans' hg2).trans' hg3).size hle4
           have cell5 : w5.cell? ⟨g4, k, none⟩ = some (bv (b.getD k 0)) := row_byte hrow5 (by have := hn.out; omega)
           have fz5 := hrow5.frozen k
           have HR1 := Lib.hid (fun V (hV : w5.grownBy V (some g4)) => read_any (hS5.out.outside' hV hnX5 hw35).at_ [97] (by decide))
           rw [so_read] at HR1
           unfold bv at cell5
           generalize (b.getD k 0).toNat = bk at *
           clear HW hS4 hT4 ha5 ho4)
        | (go_at_call 11; (with_reducible refine (HI1.out _).mono ?_); rintro e w6 ⟨rfl, rfl⟩; clear HI1)
        | (go_at_call 16; (with_reducible refine (HR1.out _ (only_set w5 g4 k _)).mono ?_); rintro e w7 ⟨A7, m7, c7, rfl, hm7, ho7, hg7⟩
           obtain rfl : m7 = n := by rw [hm7]; exact hn.out
           clear hm7
           have hS7 := Lib.hid ((hS5.out.outside' (only_set w5 g4 k _) hnX5 hw35).more hg7)
           have hT7 := Lib.hid ((hT5.out.outside' (only_set w5 g4 k _) hnY4 hw35).more hg7)
           have s7 := str_at c7 hn.out ho7.rd
           have t7 := str_at c hn.out (hr.gr hS7.out.gr)
           obtain ⟨g7, rest7, rfl, hrow7, hle7⟩ := own_row ho7 (by omega)
           have hnX7 : ¬ X5 g7 := fun hx => by have := hS5.out.at_.lt g7 hx; simp at hle7; omega
           have hnY7 : ¬ Y g7 := fun hx => by have := hT5.out.at_.lt g7 hx; simp at hle7; omega
           have hw7 : w.heap.size ≤ g7 := by have := hS5.out.gr.size; simp at hle7; omega
           have cell7 : w7.cell? ⟨g7, k, none⟩ = some (bv (b.getD k 0)) := row_byte hrow7 (by have := hn.out; omega)
           have fz7 := hrow7.frozen k
           have HR2 := Lib.hid (fun V (hV : w7.grownBy V (some g7)) => read_any (hS7.out.outside' hV hnX7 hw7).at_ [97] (by decide))
           rw [so_read] at HR2
           unfold bv at cell7
           clear HR1 hS5 hT5 ho7)
        | (go_at_call 11; (with_reducible refine (HI2.out _).mono ?_); rintro e w8 ⟨rfl, rfl⟩; clear HI2)
        | (go_at_call 16; (with_reducible refine (HR2.out _ (only_set w7 g7 k _)).mono ?_); rintro e w9 ⟨A9, m9, c9, rfl, hm9, ho9, hg9⟩
           obtain rfl : m9 = m7 := by rw [hm9]; exact hn.out
           clear hm9
           have hS9 := Lib.hid ((hS7.out.outside' (only_set w7 g7 k _) hnX7 hw7).more hg9)
           have hT9 := Lib.hid ((hT7.out.outside' (only_set w7 g7 k _) hnY7 hw7).more hg9)
           have HR3 := Lib.hid (read_any hT9.out.at_ [97] (by decide))
           rw [new_read] at HR3
           clear HR2 hS7 hT7)
        | (go_at_call 16; (with_reducible refine HR3.out.mono ?_); rintro e w10 ⟨A10, m10, c10, rfl, hm10, ho10, hg10⟩
           have hT10 := Lib.hid (hT9.out.more hg10)
           have s10 := str_at c9 hn.out (ho9.gr hg10).rd
           have t10 := str_at c hn.out (hr.gr hT10.out.gr)
           have HNa := Lib.hid (names_any hT10.out.at_ ⟨by decide, by decide⟩)
           clear HR3 hT9 ho9 ho10)
        | (go_at_call 17; (with_reducible refine HNa.out.mono ?_); rintro e w11 ⟨A11, m11, c11, rfl, hm11, ho11, hg11⟩
           obtain rfl : m11 = 0 := hm11
           have hT11 := Lib.hid (hT10.out.more hg11)
           have HU := Lib.hid (used_any hT11.out.at_ ⟨by decide, by decide⟩)
           rw [show (V.new 1000).now.used = 0 from rfl] at HU
           clear HNa hT10)
        | (go_at_call 14; (with_reducible refine HU.out.mono ?_); rintro e w12 ⟨rfl, hg12⟩))
      go_ret
      exact ⟨rfl, hT11.out.gr.trans' hg12⟩
end Go.Proofs.Ytopellbmmkflgaa
