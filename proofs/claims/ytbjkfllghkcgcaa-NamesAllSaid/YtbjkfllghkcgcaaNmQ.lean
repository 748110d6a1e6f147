/- Sets of names, name by name: of no program. -/
import Derived.Test.YtbjkfllghkcgcaaNm6
import Derived.Test.YtbjkfllghkcgcaaNm7
set_option linter.unusedVariables false
set_option linter.unusedSimpArgs false
namespace Go.Proofs.Ytbjkfllghkcgcaa

/-- Whether a name is in a set. -/
def isIn (b : Bool) (L : List Str) (s : Str) : Bool := decide (s ∈ L) != b

theorem isIn_not (b : Bool) (L : List Str) (s : Str) : isIn (!b) (ofL L) s = !isIn b L s := by
  unfold isIn
  rw [decide_eq_decide.2 (ofL_mem (L := L) (x := s))]
  cases decide (s ∈ L) <;> cases b <;> rfl
theorem withL_mem {X Y : List Str} {s : Str} : s ∈ withL X Y ↔ s ∈ X ∨ s ∈ Y := by
  unfold withL
  rw [ofL_mem, List.mem_append]
theorem onlyL_mem {X Y : List Str} {b : Bool} {s : Str} : s ∈ onlyL X Y b ↔ s ∈ X ∧ (decide (s ∈ Y) = b) := by
  unfold onlyL onlyR
  rw [ofL_mem, List.mem_filter, beq_iff_eq]
theorem isIn_both (b1 b2 : Bool) (L1 L2 : List Str) (s : Str) : isIn (b1 && b2) (bothL b1 b2 L1 L2) s = (isIn b1 L1 s && isIn b2 L2 s) := by
  unfold isIn
  have e : decide (s ∈ bothL b1 b2 L1 L2) = (match b1, b2 with
      | true, true => decide (s ∈ L1) || decide (s ∈ L2)
      | true, false => decide (s ∈ L2) && !decide (s ∈ L1)
      | false, true => decide (s ∈ L1) && !decide (s ∈ L2)
      | false, false => decide (s ∈ L1) && decide (s ∈ L2)) := by
    cases b1 <;> cases b2 <;> simp only [bothL, withL_mem, onlyL_mem, ofL_mem] <;> by_cases h1 : s ∈ L1 <;> by_cases h2 : s ∈ L2 <;> simp [h1, h2]
  rw [e]
  cases b1 <;> cases b2 <;> cases decide (s ∈ L1) <;> cases decide (s ∈ L2) <;> rfl
theorem isIn_either (b1 b2 : Bool) (L1 L2 : List Str) (s : Str) : isIn (b1 || b2) (eitherL b1 b2 L1 L2) s = (isIn b1 L1 s || isIn b2 L2 s) := by
  have h := isIn_not (!b1 && !b2) (bothL (!b1) (!b2) (ofL L1) (ofL L2)) s
  have e : (!(!b1 && !b2)) = (b1 || b2) := by simp
  rw [e] at h
  unfold eitherL
  rw [h, isIn_both, isIn_not, isIn_not]
  cases isIn b1 L1 s <;> cases isIn b2 L2 s <;> rfl
theorem sameL_iff {b1 b2 : Bool} {L1 L2 : List Str} : sameL b1 b2 L1 L2 = true ↔ b1 = b2 ∧ ∀ s, isIn b1 L1 s = isIn b2 L2 s := by
  unfold sameL
  rw [Bool.and_eq_true, beq_iff_eq, decide_eq_true_eq, ofL_eq]
  constructor
  · rintro ⟨rfl, h⟩
    exact ⟨rfl, fun s => by unfold isIn; rw [decide_eq_decide.2 (h s)]⟩
  · rintro ⟨rfl, h⟩
    refine ⟨rfl, fun s => ?_⟩
    have := h s
    unfold isIn at this
    by_cases h1 : s ∈ L1 <;> by_cases h2 : s ∈ L2 <;> cases b1 <;> simp_all
theorem noneL_iff {b : Bool} {L : List Str} : noneL b L = true ↔ b = false ∧ ∀ s, isIn false L s = false := by
  unfold noneL
  cases b
  · simp only [Bool.not_false, Bool.true_and, decide_eq_true_eq, true_and]
    constructor
    · intro h s
      have : L = [] := List.eq_nil_of_length_eq_zero h
      subst this
      rfl
    · intro h
      cases L with
      | nil => rfl
      | cons x l =>
        have := h x
        simp [isIn] at this
  · simp

theorem ends1 (b : Bool) (L : List Str) : noneL (b && false) (bothL b false L []) = true := by
  refine noneL_iff.2 ⟨by simp, fun s => ?_⟩
  have := isIn_both b false L [] s
  rw [Bool.and_false] at this
  rw [this]
  simp [isIn]
theorem ends2 (b : Bool) (L : List Str) : sameL (b && true) b (bothL b true L []) L = true :=
  sameL_iff.2 ⟨by simp, fun s => by rw [isIn_both]; simp [isIn]⟩
theorem ends3 (b : Bool) (L : List Str) : sameL (b || false) b (eitherL b false L []) L = true :=
  sameL_iff.2 ⟨by simp, fun s => by rw [isIn_either]; simp [isIn]⟩
theorem ends4 (b : Bool) (L : List Str) : sameL (b || true) true (eitherL b true L []) [] = true :=
  sameL_iff.2 ⟨by simp, fun s => by rw [isIn_either]; simp [isIn]⟩
theorem ends7 : sameL (!false) true (ofL []) [] = true :=
  sameL_iff.2 ⟨rfl, fun s => by rw [isIn_not]; rfl⟩
theorem ends8 (b : Bool) (L : List Str) : sameL (b || !b) true (eitherL b (!b) L (ofL L)) [] = true :=
  sameL_iff.2 ⟨by simp, fun s => by
    rw [isIn_either, isIn_not]
    simp [isIn]⟩
end Go.Proofs.Ytbjkfllghkcgcaa
