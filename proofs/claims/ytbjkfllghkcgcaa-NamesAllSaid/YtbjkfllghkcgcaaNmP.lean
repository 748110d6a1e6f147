/- Sets as lists in order, each once: of no program. -/
import Derived.Test.YtbjkfllghkcgcaaNm1
set_option linter.unusedVariables false
set_option linter.unusedSimpArgs false
namespace Go.Proofs.Ytbjkfllghkcgcaa
open Go.Lib

theorem str_irrefl (x : Str) : ¬ x < x := List.lt_irrefl x
theorem str_trans {x y z : Str} (h : x < y) (h' : y < z) : x < z := List.lt_trans h h'
theorem str_le_lt {x y z : Str} (h : x ≤ y) (h' : y < z) : x < z := List.lt_of_le_of_lt h h'
theorem str_le_trans {x y z : Str} (h : x ≤ y) (h' : y ≤ z) : x ≤ z := List.le_trans h h'
theorem str_lt_of {x y : Str} (h : x ≤ y) (hne : x ≠ y) : x < y := List.not_le.1 fun h' => hne (List.le_antisymm h h')
theorem str_le_total (x y : Str) : x ≤ y ∨ y ≤ x := List.le_total x y
theorem str_le_of_lt {x y : Str} (h : x < y) : x ≤ y := List.le_of_lt h

theorem compact_upTo (zs : List Str) : ∀ m, m ≤ zs.length → (∀ x, x ∈ compactUpTo zs.toArray m ↔ x ∈ zs.take m) ∧
    (zs.Pairwise (· ≤ ·) → (compactUpTo zs.toArray m).Pairwise (· < ·) ∧ ∀ x ∈ compactUpTo zs.toArray m, ∀ j (hj : j < zs.length), m ≤ j + 1 → x ≤ zs[j])
  | 0, _ => by simp [compactUpTo]
  | m + 1, hm => by
    obtain ⟨h1, h2⟩ := compact_upTo zs m (by omega)
    have hmz : m < zs.length := by omega
    have e1 : zs.toArray[m]! = zs[m] := by simp [hmz]
    have et : zs.take (m + 1) = zs.take m ++ [zs[m]] := List.take_succ_eq_append_getElem hmz
    rw [compactUpTo_succ, et]
    by_cases hk : keeps zs.toArray m = true
    · rw [if_pos hk, e1]
      refine ⟨fun x => by rw [List.mem_append, List.mem_append, h1 x], fun hs => ?_⟩
      obtain ⟨h3, h4⟩ := h2 hs
      have hlt : ∀ x ∈ compactUpTo zs.toArray m, x < zs[m] := by
        intro x hx
        unfold keeps at hk
        rw [decide_eq_true_eq] at hk
        rcases Nat.eq_zero_or_pos m with h0 | h0
        · subst h0
          simp [compactUpTo] at hx
        · rcases hk with h0' | hk
          · omega
          · have e2 : zs.toArray[m - 1]! = zs[m - 1] := by simp [show m - 1 < zs.length by omega]
            rw [e1, e2] at hk
            have h5 : zs[m - 1] ≤ zs[m] := List.pairwise_iff_getElem.1 hs (m - 1) m (by omega) hmz (by omega)
            exact str_le_lt (h4 x hx (m - 1) (by omega) (by omega)) (str_lt_of h5 (fun e => hk e.symm))
      refine ⟨List.pairwise_append.2 ⟨h3, List.pairwise_singleton _ _, fun x hx y hy => ?_⟩, fun x hx j hj hmj => ?_⟩
      · obtain rfl := List.mem_singleton.1 hy
        exact hlt x hx
      · have hle : zs[m] ≤ zs[j] := by
          rcases Nat.eq_or_lt_of_le (show m ≤ j by omega) with e | hlt'
          · subst e
            exact List.le_refl _
          · exact List.pairwise_iff_getElem.1 hs m j hmz hj hlt'
        rcases List.mem_append.1 hx with hx | hx
        · exact str_le_trans (str_le_of_lt (hlt x hx)) hle
        · obtain rfl := List.mem_singleton.1 hx
          exact hle
    · rw [if_neg hk, List.append_nil]
      unfold keeps at hk
      simp only [decide_eq_true_eq, not_or, Decidable.not_not] at hk
      obtain ⟨hm0, hk⟩ := hk
      have e2 : zs.toArray[m - 1]! = zs[m - 1] := by simp [show m - 1 < zs.length by omega]
      rw [e1, e2] at hk
      refine ⟨fun x => ?_, fun hs => ?_⟩
      · rw [h1 x, List.mem_append, List.mem_singleton]
        refine ⟨.inl, fun h => ?_⟩
        rcases h with h | rfl
        · exact h
        · rw [hk]
          exact List.mem_take_iff_getElem.2 ⟨m - 1, by omega, rfl⟩
      · obtain ⟨h3, h4⟩ := h2 hs
        exact ⟨h3, fun x hx j hj hmj => h4 x hx j hj (by omega)⟩

theorem ofL_mem {L : List Str} {x : Str} : x ∈ ofL L ↔ x ∈ L := by
  unfold ofL compact
  rw [(compact_upTo _ _ (Nat.le_refl _)).1 x, List.take_length]
  exact List.mem_mergeSort
theorem ofL_sorted (L : List Str) : (ofL L).Pairwise (· < ·) := by
  unfold ofL compact
  refine ((compact_upTo _ _ (Nat.le_refl _)).2 ?_).1
  have := List.pairwise_mergeSort (le := fun x y : Str => decide (x ≤ y)) (fun a b c h h' => by
    rw [decide_eq_true_eq] at *
    exact str_le_trans h h') (fun a b => by
    rcases str_le_total a b with h | h <;> simp [h]) L
  exact this.imp fun h => by simpa using h

theorem sorted_ext : ∀ {X Y : List Str}, X.Pairwise (· < ·) → Y.Pairwise (· < ·) → (∀ s, s ∈ X ↔ s ∈ Y) → X = Y
  | [], [], _, _, _ => rfl
  | [], y :: Y, _, _, h => by have := (h y).2 (List.mem_cons_self ..); cases this
  | x :: X, [], _, _, h => by have := (h x).1 (List.mem_cons_self ..); cases this
  | x :: X, y :: Y, hx, hy, h => by
    obtain ⟨x1, x2⟩ := List.pairwise_cons.1 hx
    obtain ⟨y1, y2⟩ := List.pairwise_cons.1 hy
    have e : x = y := by
      rcases List.mem_cons.1 ((h x).1 (List.mem_cons_self ..)) with e | h1
      · exact e
      · rcases List.mem_cons.1 ((h y).2 (List.mem_cons_self ..)) with e | h2
        · exact e.symm
        · exact absurd (str_trans (y1 x h1) (x1 y h2)) (str_irrefl _)
    subst e
    congr 1
    refine sorted_ext x2 y2 fun s => ⟨fun hs => ?_, fun hs => ?_⟩
    · rcases List.mem_cons.1 ((h s).1 (List.mem_cons_of_mem _ hs)) with e | h1
      · subst e; exact absurd (x1 s hs) (str_irrefl _)
      · exact h1
    · rcases List.mem_cons.1 ((h s).2 (List.mem_cons_of_mem _ hs)) with e | h1
      · subst e; exact absurd (y1 s hs) (str_irrefl _)
      · exact h1
theorem ofL_ext {X L : List Str} (hX : X.Pairwise (· < ·)) (h : ∀ s, s ∈ X ↔ s ∈ L) : X = ofL L := sorted_ext hX (ofL_sorted L) fun s => by rw [h s, ofL_mem]
theorem ofL_eq {L M : List Str} : ofL L = ofL M ↔ ∀ s, s ∈ L ↔ s ∈ M :=
  ⟨fun h s => by rw [← ofL_mem (L := L), h, ofL_mem], fun h => sorted_ext (ofL_sorted L) (ofL_sorted M) fun s => by rw [ofL_mem, ofL_mem, h s]⟩
theorem ofL_self {X : List Str} (h : X.Pairwise (· < ·)) : ofL X = X := (ofL_ext h fun _ => Iff.rfl).symm

/-- Where a string stands, or would stand, in a list in order. -/
theorem split_at : ∀ (Y : List Str) (x : Str), Y.Pairwise (· < ·) → ∃ k, k ≤ Y.length ∧ (∀ t, t < k → Y.getD t x < x) ∧ (∀ t, k ≤ t → ¬ Y.getD t x < x) ∧ ((k < Y.length ∧ Y.getD k x = x) ↔ x ∈ Y)
  | [], x, _ => ⟨0, Nat.le_refl _, fun t h => absurd h (by omega), fun t _ => by rw [List.getD_nil]; exact str_irrefl x, by simp⟩
  | y :: Y, x, h => by
    obtain ⟨y1, y2⟩ := List.pairwise_cons.1 h
    by_cases hy : y < x
    · obtain ⟨k, k1, k2, k3, k4⟩ := split_at Y x y2
      refine ⟨k + 1, by simpa using k1, fun t ht => ?_, fun t ht => ?_, ?_⟩
      · cases t with
        | zero => simpa using hy
        | succ t => simpa using k2 t (by omega)
      · cases t with
        | zero => omega
        | succ t => simpa using k3 t (by omega)
      · have : x ≠ y := fun e => str_irrefl x (by rw [e] at hy ⊢; exact hy)
        simp only [List.length_cons, Nat.add_lt_add_iff_right, List.getD_cons_succ, List.mem_cons, this, false_or]
        exact k4
    · refine ⟨0, Nat.zero_le _, fun t h => absurd h (by omega), fun t _ => ?_, ?_⟩
      · cases t with
        | zero => simpa using hy
        | succ t =>
          simp only [List.getD_cons_succ]
          intro h'
          by_cases htl : t < Y.length
          · have e : Y.getD t x = Y[t] := by simp [List.getD_eq_getElem?_getD, htl]
            rw [e] at h'
            exact hy (str_trans (y1 _ (List.getElem_mem htl)) h')
          · have e : Y.getD t x = x := by simp [List.getD_eq_getElem?_getD, htl]
            rw [e] at h'
            exact str_irrefl x h'
      · simp only [List.length_cons, List.getD_cons_zero, List.mem_cons]
        refine ⟨fun h => .inl h.2.symm, fun h => ⟨by omega, ?_⟩⟩
        rcases h with h | h
        · exact h.symm
        · exact absurd (y1 x h) hy
end Go.Proofs.Ytbjkfllghkcgcaa
