/- Package cadenceref3: pick. -/
import Derived.Test.YtbjkfllghkcgcaaNaR3
set_option linter.unusedVariables false
set_option linter.unusedSimpArgs false
namespace Go.Proofs.Ytbjkfllghkcgcaa
open Go.RowKit Go.Sort

attribute [local go_sem] Vc.known_tmp Vc.known_const Vc.known_func Vc.known_global Vc.lk Vc.okUpon Vc.Fact.holds

def pickF (both b1 b2 : Bool) : Bool := if both then b1 && b2 else b1 || b2
def pickIs (both b1 b2 : Bool) (L1 L2 : List Str) (x : Str) : Bool := if both then isIn b1 L1 x && isIn b2 L2 x else isIn b1 L1 x || isIn b2 L2 x
def pickR (both b1 b2 : Bool) (L1 L2 M : List Str) : List Str := M.filter fun x => pickIs both b1 b2 L1 L2 x != pickF both b1 b2
theorem pickR_snoc {both b1 b2 : Bool} {L1 L2 M : List Str} {j : Nat} (h : j < M.length) : pickR both b1 b2 L1 L2 (M.take (j + 1)) = pickR both b1 b2 L1 L2 (M.take j) ++ (if pickIs both b1 b2 L1 L2 M[j] != pickF both b1 b2 then [M[j]] else []) := by
  unfold pickR
  rw [List.take_succ_eq_append_getElem h, List.filter_append]
  congr 1
  simp only [List.filter_cons, List.filter_nil]
theorem pickR_length {both b1 b2 : Bool} {L1 L2 M : List Str} : (pickR both b1 b2 L1 L2 M).length ≤ M.length := List.length_filter_le _ _

theorem pick_mem {f : Bool} {L : List Str} {s : Str} : s ∈ L ↔ isIn f L s ≠ f := by
  unfold isIn
  by_cases h : s ∈ L <;> cases f <;> simp [h]
theorem pick_both (b1 b2 : Bool) (L1 L2 : List Str) : ofL (pickR true b1 b2 L1 L2 (L1 ++ L2)) = bothL b1 b2 L1 L2 := by
  have hs : (bothL b1 b2 L1 L2).Pairwise (· < ·) := by cases b1 <;> cases b2 <;> exact ofL_sorted _
  refine (ofL_ext hs fun s => ?_).symm
  rw [pick_mem (f := b1 && b2), isIn_both]
  unfold pickR
  rw [List.mem_filter, List.mem_append]
  simp only [pickIs, pickF, if_true, bne_iff_ne]
  constructor
  · intro h
    refine ⟨?_, h⟩
    by_cases h1 : s ∈ L1
    · exact .inl h1
    · by_cases h2 : s ∈ L2
      · exact .inr h2
      · exfalso
        apply h
        simp [isIn, h1, h2]
  · exact fun h => h.2
theorem pick_either (b1 b2 : Bool) (L1 L2 : List Str) : ofL (pickR false b1 b2 L1 L2 (L1 ++ L2)) = eitherL b1 b2 L1 L2 := by
  refine (ofL_ext (ofL_sorted _) fun s => ?_).symm
  have e : s ∈ ofL (bothL (!b1) (!b2) (ofL L1) (ofL L2)) ↔ isIn (b1 || b2) (eitherL b1 b2 L1 L2) s ≠ (b1 || b2) := pick_mem
  rw [e, isIn_either]
  unfold pickR
  rw [List.mem_filter, List.mem_append]
  simp only [pickIs, pickF, Bool.false_eq_true, if_false, bne_iff_ne]
  constructor
  · intro h
    refine ⟨?_, h⟩
    by_cases h1 : s ∈ L1
    · exact .inl h1
    · by_cases h2 : s ∈ L2
      · exact .inr h2
      · exfalso
        apply h
        simp [isIn, h1, h2]
  · exact fun h => h.2

theorem res2c {w0 W : World} {g : Nat} {t : TypeId} {x y u : Value} {a : Addr} (hr : Row W g t [x, y]) (hg : Gr w0 W) (hlt : w0.heap.size ≤ g) (_ : W.cell? a = some u) (v : Value) :
    Row ((W.setCell ⟨g, 0, none⟩ u).setCell ⟨g, 1, none⟩ v) g t [u, v] ∧ W.grownBy ((W.setCell ⟨g, 0, none⟩ u).setCell ⟨g, 1, none⟩ v) (some g) ∧ Gr w0 ((W.setCell ⟨g, 0, none⟩ u).setCell ⟨g, 1, none⟩ v) := res2 hr hg hlt u v

end Go.Proofs.Ytbjkfllghkcgcaa
