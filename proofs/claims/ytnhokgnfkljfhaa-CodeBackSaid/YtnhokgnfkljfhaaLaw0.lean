/- Package cadencelaw1: what the laws share. -/
import Derived.Test.YtnhokgnfkljfhaaRef2
set_option linter.unusedVariables false
set_option linter.unusedSimpArgs false
namespace Go.Proofs.Ytnhokgnfkljfhaa
open Go.RowKit

theorem known1_any (w : World) : Calls Try.prog 11 #[] w fun e w' => e = .returned (.bool true) ∧ Gr w w' := by
  have H := Lib.hid (fun W => wInt_any none 0 0 [] (-2) W (Lib.hid rfl) (Rd.nil _ _) (by omega))
  have H2 := Lib.hid (fun W => wText_any none 0 0 [] ⟨#[97, 98]⟩ W (Lib.hid rfl) (Rd.nil _ _) (by omega) (by decide))
  have e1 : [] ++ le (u64 (-2)) 8 = [254, 255, 255, 255, 255, 255, 255, 255] := by decide
  have e2 : [] ++ le (cutS ⟨#[97, 98]⟩).length 2 ++ cutS ⟨#[97, 98]⟩ = [2, 0, 97, 98] := by decide
  rw [e1] at H
  rw [e2] at H2
  clear e1 e2
  go_enter Try.func11, Try.ntmps11
  go_wp2_with (first
    | (go_at_call 12; (with_reducible refine (H.out _).mono ?_); rintro e w1 ⟨g, n, rfl, hn, hg, hr, hgr⟩; obtain rfl := hn.out; have c0 : w1.cell? ⟨g, 0, none⟩ = some (.int .u8 254) := (by rw [hr.cell]; rfl); have c7 : w1.cell? ⟨g, 7, none⟩ = some (.int .u8 255) := (by rw [hr.cell]; rfl))
    | (go_at_call 16; (with_reducible refine (H2.out _).mono ?_); rintro e w2 ⟨g2, n2, rfl, hn2, hg2, hr2, hgr2⟩; obtain rfl := hn2.out))
  go_ret
  exact ⟨rfl, hgr.trans' hgr2⟩

theorem within_neg {a n : Int} (hn : 0 < n) (hn2 : n ≤ 4611686018427387904) (ha : a < 0) (h : a.tmod n < 0) : wrap64 (a.tmod n + n) = a % n := by
  have h1 := Int.emod_nonneg a (show n ≠ 0 by omega)
  have h2 := Int.emod_lt_of_pos a hn
  rw [Int.tmod_eq_emod] at h ⊢
  split at h
  · omega
  · rename_i hc
    rw [if_neg hc]
    unfold wrap64
    omega
theorem within_pos {a n : Int} (hn : 0 < n) (ha : a < 0) (h : ¬ a.tmod n < 0) : a.tmod n = a % n := by
  have h1 := Int.emod_nonneg a (show n ≠ 0 by omega)
  have h2 := Int.emod_lt_of_pos a hn
  rw [Int.tmod_eq_emod] at h ⊢
  split at h
  · rename_i hc
    rw [if_pos hc]
    omega
  · omega

theorem within1_any (a n : Int) (w : World) (h0 : -9223372036854775808 ≤ a) (h1 : a ≤ 9223372036854775807) (hn : 0 < n) (hn2 : n ≤ 4611686018427387904) :
    Calls Try.prog 18 #[.int .i64 a, .int .i64 n] w fun e w' => e = .returned (.int .i64 (a % n)) ∧ w = w' := by
  by_cases ha : 0 ≤ a
  · have hm := Int.emod_nonneg a (show n ≠ 0 by omega)
    go_enter Try.func18, Try.ntmps18
    go_wp2
    go_ret
    exact ⟨rfl, rfl⟩
  · have ha' : a < 0 := by omega
    clear ha
    by_cases hm : a.tmod n < 0
    · have H := Lib.hid (within_neg hn hn2 ha' hm)
      go_enter Try.func18, Try.ntmps18
      go_wp2
      go_ret
      exact ⟨by rw [← H.out]; rfl, rfl⟩
    · have H := Lib.hid (within_pos hn ha' hm)
      go_enter Try.func18, Try.ntmps18
      go_wp2
      go_ret
      exact ⟨by rw [← H.out]; rfl, rfl⟩
end Go.Proofs.Ytnhokgnfkljfhaa
