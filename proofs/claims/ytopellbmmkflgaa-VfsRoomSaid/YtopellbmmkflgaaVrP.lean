/- VfsRoom, plain: how full files are. -/
import Derived.Test.YtopellbmmkflgaaVfK
set_option linter.unusedVariables false
set_option linter.unusedSimpArgs false
namespace Go.Proofs.Ytopellbmmkflgaa
def nm4 (k : Nat) : Str := [[97], [98], [99], [100]].getD k []
theorem nm4_len : ∀ k, k < 4 → (nm4 k).length = 1 := by decide
theorem nm4_inj : ∀ k, k < 4 → ∀ m, m < 4 → nm4 m = nm4 k → m = k := by decide
/-- The other ones' bytes, up to j. -/
def oth (zs : List Nat) (k j : Nat) : Nat := ((List.range j).map fun t => if t = k then 0 else zs.getD t 0).sum
theorem oth_zero (zs : List Nat) (k : Nat) : oth zs k 0 = 0 := rfl
theorem oth_succ (zs : List Nat) (k j : Nat) : oth zs k (j + 1) = oth zs k j + if j = k then 0 else zs.getD j 0 := by
  unfold oth
  rw [List.range_succ, List.map_append, List.sum_append]
  simp
theorem oth_le {zs : List Nat} {m : Nat} (h : ∀ z ∈ zs, z ≤ m) (k : Nat) : ∀ j, oth zs k j ≤ m * j
  | 0 => Nat.le_refl _
  | j + 1 => by
    rw [oth_succ]
    have h1 := oth_le h k j
    have h2 : (if j = k then 0 else zs.getD j 0) ≤ m := by
      split
      · exact Nat.zero_le _
      · rw [List.getD_eq_getElem?_getD]
        cases hj : zs[j]? with
        | none => simp
        | some z => exact h z (List.mem_of_getElem? hj)
    rw [Nat.mul_succ]
    omega
theorem four {zs : List Nat} (h : zs.length = 4) : ∃ a b c d, zs = [a, b, c, d] := by
  match zs, h with
  | [a, b, c, d], _ => exact ⟨a, b, c, d, rfl⟩
theorem oth_four {zs : List Nat} (h : zs.length = 4) {k : Nat} (hk : k < 4) : oth zs k 4 + zs.getD k 0 = zs.sum := by
  obtain ⟨a, b, c, d, rfl⟩ := four h
  have : k = 0 ∨ k = 1 ∨ k = 2 ∨ k = 3 := by omega
  rcases this with rfl | rfl | rfl | rfl <;> simp [oth, List.range, List.range.loop] <;> omega
theorem sum_set {zs : List Nat} (h : zs.length = 4) {k : Nat} (hk : k < 4) (n : Nat) : (zs.set k n).sum + zs.getD k 0 = zs.sum + n := by
  obtain ⟨a, b, c, d, rfl⟩ := four h
  have : k = 0 ∨ k = 1 ∨ k = 2 ∨ k = 3 := by omega
  rcases this with rfl | rfl | rfl | rfl <;> simp <;> omega
structure RI (s : V) (r : Nat) (zs : List Nat) (j : Nat) : Prop where
  dead : s.dead = false
  stop : s.stop = 0
  room : s.room = r
  ops : s.ops ≤ j
  len : zs.length = 4
  get : ∀ k, k < 4 → ((s.now.get (nm4 k)).getD []).length = zs.getD k 0
  used : s.now.used = zs.sum
  small : ∀ z ∈ zs, z ≤ 150
section
variable {s : V} {r : Nat} {zs : List Nat} {j k n : Nat} {b : Str}
theorem RI.new (r : Int) (h0 : 0 ≤ r) (h1 : r ≤ 300) : RI (V.new r) r.toNat [0, 0, 0, 0] 0 := by
  refine ⟨rfl, rfl, ?_, Nat.le_refl _, rfl, fun k hk => ?_, rfl, by simp⟩
  · show min r.toNat mostRoom = r.toNat
    unfold mostRoom
    omega
  · have : k = 0 ∨ k = 1 ∨ k = 2 ∨ k = 3 := by omega
    rcases this with rfl | rfl | rfl | rfl <;> rfl
theorem RI.more (h : RI s r zs j) : RI s r zs (j + 1) := ⟨h.dead, h.stop, h.room, Nat.le_succ_of_le h.ops, h.len, h.get, h.used, h.small⟩
theorem RI.full (h : RI s r zs j) (hk : k < 4) (hb : b.length = n) (hf : r < oth zs k 4 + n) : s.write (nm4 k) b = (s, 14) := by
  have h1 := nm4_len k hk
  have h2 := h.get k hk
  have h3 := oth_four h.len hk
  have h4 : ¬ (nm4 k = [] ∨ 20 < (nm4 k).length) := by
    rintro (e | e)
    · rw [e] at h1; cases h1
    · omega
  unfold V.write
  rw [if_neg (by rw [h.dead]; simp), if_neg h4, if_pos (by rw [h.room, h.used, h2]; omega)]
theorem RI.fits (h : RI s r zs j) (hok : s.Ok) (hk : k < 4) (hb : b.length = n) (hn : n ≤ 150) (hf : ¬ r < oth zs k 4 + n) : (s.write (nm4 k) b).2 = 0 ∧ RI (s.write (nm4 k) b).1 r (zs.set k n) (j + 1) := by
  have h1 := nm4_len k hk
  have h2 := h.get k hk
  have h3 := oth_four h.len hk
  have h4 : ¬ (nm4 k = [] ∨ 20 < (nm4 k).length) := by
    rintro (e | e)
    · rw [e] at h1; cases h1
    · omega
  have h5 : s.write (nm4 k) b = (s.done ⟨nm4 k, b, false⟩, deadNo (s.done ⟨nm4 k, b, false⟩).dead) := by
    unfold V.write
    rw [if_neg (by rw [h.dead]; simp), if_neg h4, if_neg (by rw [h.room, h.used, h2]; omega)]
  have hd : (s.done ⟨nm4 k, b, false⟩).dead = false := by
    show (if s.stop = 0 then s.dead else decide (s.stop = 1)) = false
    rw [if_pos h.stop, h.dead]
  rw [h5]
  refine ⟨by rw [hd]; rfl, hd, ?_, h.room, Nat.succ_le_succ h.ops, by rw [List.length_set]; exact h.len, fun m hm => ?_, ?_, fun z hz => ?_⟩
  · show s.stop - 1 = 0
    rw [h.stop]
  · show (((s.now.put (nm4 k) b).get (nm4 m)).getD []).length = _
    rw [get_put hok.now]
    by_cases e : m = k
    · subst e
      rw [if_pos rfl]
      have hl := h.len
      simp [List.getD_eq_getElem?_getD, hm, hl, hb]
    · rw [if_neg (fun e2 => e (nm4_inj k hk m hm e2)), h.get m hm]
      have hl := h.len
      rw [List.getD_eq_getElem?_getD, List.getD_eq_getElem?_getD, List.getElem?_set, if_neg (fun e2 : k = m => e e2.symm)]
  · show (s.now.put (nm4 k) b).used = _
    have h6 := used_put hok.now (nm4 k) b
    have h7 := sum_set h.len hk n
    have h8 := h.used
    omega
  · rcases List.mem_or_eq_of_mem_set hz with h9 | h9
    · exact h.small z h9
    · omega
end
end Go.Proofs.Ytopellbmmkflgaa
