/- Package cadencelaw3: known, Few, within. -/
import Derived.Test.YtbjkfllghkcgcaaNmQ
import Derived.Test.YtbjkfllghkcgcaaOpen
set_option linter.unusedVariables false
set_option linter.unusedSimpArgs false
namespace Go.Proofs.Ytbjkfllghkcgcaa
open Go.RowKit Go.Sort

theorem few_any (b : Bool) (A : Option Addr) (n c : Nat) (w : World) :
    Calls Try.prog 10 #[.agg #[.bool b, .slice A n c]] w fun e w' => e = .returned (.bool (decide (n ≤ 25))) ∧ Gr w w' := by
  have hg1 := (new1 w 25 [.bool b, .slice A n c]).2
  by_cases h : n ≤ 25
  · rw [decide_eq_true h]
    go_enter Try.func10, Try.ntmps10
    go_wp2_with fail
    go_ret
    exact ⟨by simp; omega, hg1⟩
  · rw [decide_eq_false h]
    go_enter Try.func10, Try.ntmps10
    go_wp2_with fail
    go_ret
    exact ⟨by simp; omega, hg1⟩

theorem run_field_nm (u v : Value) (w : World) : (Instr.field 25 (.agg #[u, v]) 0).run Try.prog w = .ok u w := by rfl
attribute [local go_sem] run_field_nm
theorem known3_any (w : World) : Calls Try.prog 8 #[] w fun e w' => e = .returned (.bool true) ∧ Gr w w' := by
  have HN := Lib.hid (fun W => not_any false none 0 0 [] W (Lib.hid rfl) (Rd.nil _ _) (by omega))
  go_enter Try.func8, Try.ntmps8
  go_wp2_with (go_at_call 16; (with_reducible refine (HN.out _).mono ?_); rintro e w1 ⟨A, n, c, rfl, hn, hr, h1, h2, hg⟩)
  go_ret
  exact ⟨rfl, hg⟩
end Go.Proofs.Ytbjkfllghkcgcaa
