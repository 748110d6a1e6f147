/- Package cadencelaw15: Act.name, Act.Do. -/
import Derived.Test.YtopellbmmkflgaaRfS
set_option linter.unusedVariables false
set_option linter.unusedSimpArgs false
namespace Go.Proofs.Ytopellbmmkflgaa
open Go.RowKit Go.Maps Go.Sort
attribute [local go_sem] Vc.known_tmp Vc.known_const Vc.known_func Vc.known_global Vc.lk Vc.okUpon Vc.Fact.holds
def actName (N : Int) (nm : Str) : Str := if N % 9 = 8 then nm else [[97], [98], [111], [106, 111, 117, 114, 110, 97, 108]].getD (N % 4).toNat []
theorem actName_le (N : Int) {nm : Str} (h : nm.length ≤ 40) : (actName N nm).length ≤ 40 := by
  unfold actName
  split
  · exact h
  · have h1 : (N % 4).toNat = 0 ∨ (N % 4).toNat = 1 ∨ (N % 4).toNat = 2 ∨ (N % 4).toNat = 3 := by omega
    rcases h1 with h1 | h1 | h1 | h1 <;> rw [h1] <;> decide
def actV (K N : Int) (nm : Str) (Ab : Option Addr) (nb cb : Nat) (Ak : Option Addr) (nk ck : Nat) : Value := .agg #[.int .i64 K, .int .i64 N, encStr nm, .slice Ab nb cb, .slice Ak nk ck]
set_option maxRecDepth 20000 in
set_option maxHeartbeats 2000000 in
theorem actname_any (K N : Int) (nm : Str) (Ab : Option Addr) (nb cb : Nat) (Ak : Option Addr) (nk ck : Nat) (w : World) (h0 : -9223372036854775808 ≤ N) (h1 : N ≤ 9223372036854775807) :
    Calls Try.prog 36 #[actV K N nm Ab nb cb Ak nk ck] w fun e w' => e = .returned (encStr (actName N nm)) ∧ Gr w w' := by
  unfold actV
  have HI := Lib.hid (fun W => within1_any N 9 W h0 h1 (by decide) (by decide))
  have hg1 := Gr.alloc1 w (.cells #[.int .i64 K, .int .i64 N, encStr nm, .slice Ab nb cb, .slice Ak nk ck] 53)
  by_cases h8 : N % 9 = 8
  · have e1 : actName N nm = nm := by unfold actName; rw [if_pos h8]
    rw [e1]
    rw [h8] at HI
    go_enter Try.func36, Try.ntmps36
    go_wp2_with (go_at_call 11; (with_reducible refine (HI.out _).mono ?_); rintro e w1 ⟨rfl, rfl⟩)
    go_ret
    exact ⟨rfl, hg1⟩
  · have e8 : (N % 9 == 8) = false := by simpa using h8
    have e1 : actName N nm = [[97], [98], [111], [106, 111, 117, 114, 110, 97, 108]].getD (N % 4).toNat [] := by unfold actName; rw [if_neg h8]
    rw [e1]
    have HJ := Lib.hid (fun W => within1_any N 4 W h0 h1 (by decide) (by decide))
    have k0 := Int.emod_nonneg N (show (4 : Int) ≠ 0 by decide)
    have k1 := Int.emod_lt_of_pos N (show (0 : Int) < 4 by decide)
    clear e1 h8
    have hk : N % 4 = 0 ∨ N % 4 = 1 ∨ N % 4 = 2 ∨ N % 4 = 3 := by omega
    have hg2 := hg1.trans' (Gr.alloc1 _ (.cells #[.string ⟨#[97]⟩, .string ⟨#[98]⟩, .string ⟨#[111]⟩, .string ⟨#[106, 111, 117, 114, 110, 97, 108]⟩] 9))
    rcases hk with hk | hk | hk | hk <;> rw [hk] at HJ ⊢ <;> clear hk k0 k1
    all_goals
      go_enter Try.func36, Try.ntmps36
      go_wp2_with (first
        | (go_at_call 11; (with_reducible refine (HI.out _).mono ?_); rintro e w1 ⟨rfl, rfl⟩; clear HI)
        | (go_at_call 11; (with_reducible refine (HJ.out _).mono ?_); rintro e w1 ⟨rfl, rfl⟩))
      go_ret
      exact ⟨rfl, hg2⟩
end Go.Proofs.Ytopellbmmkflgaa
