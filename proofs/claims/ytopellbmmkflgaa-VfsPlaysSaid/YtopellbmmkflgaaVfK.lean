/- Package cadencelaw15: within, known. -/
import Derived.Test.YtopellbmmkflgaaVfC6
set_option linter.unusedVariables false
set_option linter.unusedSimpArgs false
namespace Go.Proofs.Ytopellbmmkflgaa
open Go.RowKit Go.Maps Go.Sort

theorem within_neg {a n : Int} (hn : 0 < n) (hn2 : n ≤ 4611686018427387904) (ha : a < 0) (h : a.tmod n < 0) : wrap64 (a.tmod n + n) = a % n := by
  have h1 := Int.emod_nonneg a (show n ≠ 0 by omega)
  have h2 := Int.emod_lt_of_pos a hn
  rw [Int.tmod_eq_emod] at h ⊢
  split at h
  · omega
  · rename_i hc
    rw [if_neg hc]
    unfold wrap64
    omega
theorem within_pos {a n : Int} (hn : 0 < n) (ha : a < 0) (h : ¬ a.tmod n < 0) : a.tmod n = a % n := by
  have h1 := Int.emod_nonneg a (show n ≠ 0 by omega)
  have h2 := Int.emod_lt_of_pos a hn
  rw [Int.tmod_eq_emod] at h ⊢
  split at h
  · rename_i hc
    rw [if_pos hc]
    omega
  · omega

theorem within1_any (a n : Int) (w : World) (h0 : -9223372036854775808 ≤ a) (h1 : a ≤ 9223372036854775807) (hn : 0 < n) (hn2 : n ≤ 4611686018427387904) :
    Calls Try.prog 11 #[.int .i64 a, .int .i64 n] w fun e w' => e = .returned (.int .i64 (a % n)) ∧ w = w' := by
  by_cases ha : 0 ≤ a
  · have hm := Int.emod_nonneg a (show n ≠ 0 by omega)
    go_enter Try.func11, Try.ntmps11
    go_wp2
    go_ret
    exact ⟨rfl, rfl⟩
  · have ha' : a < 0 := by omega
    clear ha
    by_cases hm : a.tmod n < 0
    · have H := Lib.hid (within_neg hn hn2 ha' hm)
      go_enter Try.func11, Try.ntmps11
      go_wp2
      go_ret
      exact ⟨by rw [← H.out]; rfl, rfl⟩
    · have H := Lib.hid (within_pos hn ha' hm)
      go_enter Try.func11, Try.ntmps11
      go_wp2
      go_ret
      exact ⟨by rw [← H.out]; rfl, rfl⟩


/-! ### An object of the call's own -/
structure Sv (w0 W : World) (X : Nat → Prop) (p : Nat) (s : V) : Prop where
  at_ : At W X p s
  gr : Gr w0 W
  hi : ∀ i, X i → w0.heap.size ≤ i
section
variable {w0 W W' : World} {X X' : Nat → Prop} {p : Nat} {s s' : V}
theorem Sv.step (h : Sv w0 W X p s) (ha : At W' X' p s') (hm : Mv W X W' X') : Sv w0 W' X' p s' :=
  ⟨ha, h.gr.trans (hm.tr.below h.gr.size h.hi), fun i hi => by
    rcases hm.new i hi with h1 | h1
    · exact h.hi i h1
    · exact Nat.le_trans h.gr.size h1⟩
theorem Sv.more (h : Sv w0 W X p s) (hg : Gr W W') : Sv w0 W' X p s := ⟨h.at_.gr hg, h.gr.trans' hg, h.hi⟩
theorem Sv.new (ha : At W X p s) (hg : Gr w0 W) (hx : ∀ i, X i → w0.heap.size ≤ i) : Sv w0 W X p s := ⟨ha, hg, hx⟩
theorem Sv.ok (h : Sv w0 W X p s) : s.Ok := h.at_.1
/-- What lies outside of the lot stays. -/
theorem Mv.row {g : Nat} {t : TypeId} {xs : List Value} (hm : Mv W X W' X') (hr : Row W g t xs) (hx : ¬ X g) : Row W' g t xs ∧ ¬ X' g := by
  refine ⟨hm.tr.row hr hx, fun h => ?_⟩
  rcases hm.new g h with h1 | h1
  · exact hx h1
  · have := hr.lt
    omega
theorem Mv.rd {A : Option Addr} {xs : List Value} (hm : Mv W X W' X') (hr : Rd W A xs) (hx : ∀ ad, A = some ad → ¬ X ad.block) : Rd W' A xs := hm.tr.rd hr hx
theorem At.lt (h : At W X p s) : ∀ i, X i → i < W.heap.size := by
  obtain ⟨_, _, _, _, _, h⟩ := h
  exact h.lt
end
theorem step_ops (s : V) : s.step.ops = s.ops + 1 := rfl
theorem write_ops (s : V) (n b : Str) : (s.write n b).1.ops ≤ s.ops + 1 := by
  unfold V.write
  split
  · simp
  · split
    · simp
    · split
      · simp
      · exact Nat.le_refl _
theorem remove_ops (s : V) (n : Str) : (s.remove n).1.ops ≤ s.ops + 1 := by
  unfold V.remove
  split
  · simp
  · split
    · exact Nat.le_refl _
    · simp
theorem flush_ops (s : V) : s.flush.1.ops ≤ s.ops + 1 := by
  unfold V.flush
  split
  · simp
  · split
    · exact Nat.le_refl _
    · exact Nat.le_refl _
theorem write_stop (s : V) (n b : Str) : (s.write n b).1.stop ≤ s.stop := by
  unfold V.write
  split
  · simp
  · split
    · simp
    · split
      · simp
      · exact Nat.sub_le _ _
theorem remove_stop (s : V) (n : Str) : (s.remove n).1.stop ≤ s.stop := by
  unfold V.remove
  split
  · simp
  · split
    · exact Nat.sub_le _ _
    · simp
theorem flush_stop (s : V) : s.flush.1.stop ≤ s.stop := by
  unfold V.flush
  split
  · simp
  · split
    · exact Nat.sub_le _ _
    · exact Nat.sub_le _ _
theorem crash_ops (s : V) (k : List Int) : (s.crash k).ops = s.ops := rfl
theorem sm_of {s : V} {a b : Nat} (h : s.ops ≤ a) (h' : s.stop ≤ b) (ha : a ≤ 1000000) (hb : b ≤ 1000000) : Sm s := ⟨by omega, by omega⟩

/-! ### The chapter's example -/
def ex1 : V := ⟨[([97], [1])], [], [⟨[97], [1], false⟩], 100, 0, 1, false⟩
theorem ex1_eq : (V.new 100).write [97] [1] = (ex1, 0) := by rfl
def ex2 : V := ⟨[], [], [], 100, 0, 1, false⟩
theorem ex2_eq : ex1.crash [] = ex2 := by rfl

set_option maxHeartbeats 2000000 in
theorem known_any (w : World) : Calls Try.prog 10 #[] w fun e w' => e = .returned (.bool true) ∧ Gr w w' := by
  go_enter Try.func10, Try.ntmps10
  go_wp2_with (first
    | (go_at_call 12; refine (new_any 100 w).mono ?_; rintro e w1 ⟨p, X, rfl, ha, hg, hx⟩
       have hS := Lib.hid (Sv.new ha hg hx)
       have hS2 := Lib.hid (hS.out.more (Gr.alloc1 w1 (.cells #[.int .u8 1] 5)))
       have HW := Lib.hid (write_any hS2.out.at_ ⟨Nat.zero_le _, Nat.zero_le _⟩ [97] (by decide) (some ⟨w1.heap.size, 0, none⟩) 1 1 [1] (Lib.hid rfl) (Rd.of_row' (t := 5) (Row.new w1 5 [.int .u8 1])) (by omega))
       rw [ex1_eq] at HW
       clear ha hg hx hS)
    | (go_at_call 13; refine HW.out.mono ?_; rintro e w2 ⟨rfl, X2, ha, hm⟩
       have hS := Lib.hid (hS2.out.step ha hm)
       have HN1 := Lib.hid (names_any hS.out.at_ ⟨by decide, by decide⟩)
       clear HW hS2 ha hm)
    | (go_at_call 17; (with_reducible refine HN1.out.mono ?_); rintro e w3 ⟨A3, n3, c3, rfl, rfl, ho, hg⟩
       have hS3 := Lib.hid (hS.out.more hg)
       have HC := Lib.hid (crash_any hS3.out.at_ ⟨by decide, by decide⟩ none 0 0 [] (Lib.hid rfl) (Rd.nil _ _) (by simp) (by omega))
       rw [ex2_eq] at HC
       clear HN1 ho hg hS)
    | (go_at_call 20; (with_reducible refine HC.out.mono ?_); rintro e w4 ⟨rfl, X4, ha, hm⟩
       have hS4 := Lib.hid (hS3.out.step ha hm)
       have HN2 := Lib.hid (names_any hS4.out.at_ ⟨by decide, by decide⟩)
       clear HC hS3 ha hm)
    | (go_at_call 17; (with_reducible refine HN2.out.mono ?_); rintro e w5 ⟨A5, n5, c5, rfl, rfl, ho, hg⟩
       have hS5 := Lib.hid (hS4.out.more hg)
       have HR := Lib.hid (room_any hS5.out.at_)
       clear HN2 ho hg hS4)
    | (go_at_call 15; (with_reducible refine HR.out.mono ?_); rintro e w6 ⟨rfl, rfl⟩))
  go_ret
  exact ⟨rfl, hS5.out.gr⟩
end Go.Proofs.Ytopellbmmkflgaa
