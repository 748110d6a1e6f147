/- Package cadenceref3: in, Has, put. -/
import Derived.Test.YtbjkfllghkcgcaaNmK
set_option linter.unusedVariables false
set_option linter.unusedSimpArgs false
namespace Go.Proofs.Ytbjkfllghkcgcaa
open Go.RowKit Go.Sort

attribute [local go_sem] Vc.known_tmp Vc.known_const Vc.known_func Vc.known_global Vc.lk Vc.okUpon Vc.Fact.holds

set_option maxHeartbeats 2000000 in
theorem xin_any (A : Option Addr) (n c : Nat) (L : List Str) (s : Str) (w : World) (hn : Hid (L.length = n)) (hr : Rd w A (L.map encStr)) (hl : n ≤ 1000000) :
    Calls Try.prog 41 #[.slice A n c, encStr s] w fun e w' => e = .returned (.bool (decide (s ∈ L))) ∧ Gr w w' := by
  go_enter Try.func41, Try.ntmps41
  go_wp2_with fail
  go_loopw [5] (fun i wr => ∃ j : Nat, j ≤ n ∧ i = .int .i64 j ∧ Hid (s ∉ L.take j) ∧ Gr w wr) (fun i _ => n - (intOf i).toNat)
  case atStart => exact ⟨0, by omega, rfl, Lib.hid (by simp), Gr.rfl' _⟩
  case round =>
    obtain ⟨j, hj, rfl, hno, hb⟩ := hrel
    by_cases hlt : j < n
    · have hjl : j < L.length := by have := hn.out; omega
      obtain ⟨ad, rfl, hx⟩ := hr.at_ (k := j) (by simpa using hjl)
      have hx := hb.cell hx
      simp only [List.getElem_map] at hx
      by_cases hxs : L[j] = s
      · have hm := Lib.hid (List.getElem_mem hjl)
        rw [hxs] at hx hm
        clear hxs
        go_wp2_with fail
        go_ret
        exact ⟨by rw [decide_eq_true hm.out]; rfl, hb⟩
      · have hno2 : s ∉ L.take (j + 1) := by
          rw [List.take_succ_eq_append_getElem hjl, List.mem_append, List.mem_singleton]
          rintro (h | h)
          · exact hno.out h
          · exact hxs h.symm
        have hno2 := Lib.hid hno2
        have hf : (L[j] == s) = false := by simpa using hxs
        generalize L[j] = x at *
        clear hxs
        go_wp2_with fail
        go_roundw
        case rel => exact ⟨j + 1, by omega, by go_num, hno2, hb⟩
        case measure => simp [intOf]; omega
    · obtain rfl : j = n := by omega
      have hno3 : s ∉ L := by have := hno.out; rwa [List.take_of_length_le (by have := hn.out; omega)] at this
      have hno3 := Lib.hid hno3
      go_wp2_with fail
      go_ret
      exact ⟨by rw [decide_eq_false hno3.out]; rfl, hb⟩

theorem xhas_any (b : Bool) (A : Option Addr) (n c : Nat) (L : List Str) (s : Str) (w : World) (hn : Hid (L.length = n)) (hr : Rd w A (L.map encStr)) (hl : n ≤ 1000000) :
    Calls Try.prog 29 #[.agg #[.bool b, .slice A n c], encStr s] w fun e w' => e = .returned (.bool (isIn b L s)) ∧ Gr w w' := by
  have HC := Lib.hid (fun W h => xin_any A n c L s W hn h hl)
  go_enter Try.func29, Try.ntmps29
  go_wp2_with fail
  obtain ⟨hrow, hg1⟩ := new1 w 25 [.bool b, .slice A n c]
  generalize w.alloc (.cells #[.bool b, .slice A n c] 25) = w1 at *
  have hc := Lib.hid (show w1.cell? ⟨w.heap.size, 0, none⟩ = some (.bool b) ∧ w1.cell? ⟨w.heap.size, 1, none⟩ = some (.slice A n c) from ⟨hrow.cell 0, hrow.cell 1⟩)
  have hd := hr.gr hg1
  refine Vc.wp_region_facts ⟨Gr, fun _ => Gr, fun _ W => Gr w1 W, []⟩ (by kernel_rfl) (by kernel_rfl) (fun _ _ _ h h' => h'.trans' h) (Gr.draw _) ?_
  repeat
    refine Vc.Walk.pure (v := ?_) (fun _ => Gr.rfl' _) rfl (by first | exact Vc.GuardYes.no rfl | exact Vc.GuardYes.yes rfl rfl) rfl rfl ?_ ?_
    rotate_left
    · intro _ W hI
      (have y0 := hI.g.cell hc.out.1; have y1 := hI.g.cell hc.out.2; clear hI)
      go_simp
      exact rfl
  refine Vc.Walk.any (.is (.bool (decide (s ∈ L)))) trivial (by first | exact .no rfl | exact .yes rfl rfl) ?_ ?_
  · intro ρ k W hI hf
    obtain ⟨hρ0, hρ1, hρ2, _⟩ := hf
    have hg := hI.g
    have e0 : ρ (.func 41) = .func (.func 41) #[] #[] := hρ0
    have e1 : ρ (.tmp 6) = .slice A n c := hρ1
    have e2 : ρ (.tmp 7) = encStr s := hρ2
    clear hI hρ0 hρ1 hρ2
    go_simp
    refine (HC.out _ (hd.gr hg)).mono ?_
    rintro e W' ⟨rfl, hg'⟩
    exact ⟨_, rfl, rfl, hg'⟩
  repeat
    refine Vc.Walk.pure (v := ?_) (fun _ => Gr.rfl' _) rfl (by first | exact Vc.GuardYes.no rfl | exact Vc.GuardYes.yes rfl rfl) rfl rfl ?_ ?_
    rotate_left
    · intro _ W hI
      (have y0 := hI.g.cell hc.out.1; have y1 := hI.g.cell hc.out.2; clear hI)
      go_simp
      exact rfl
  intro W hW
  have hW : Gr w1 W := hW
  simp only [List.reverse_cons, List.reverse_nil, List.nil_append, List.cons_append, Vc.finish, Act.put, List.setIfInBounds_toArray, List.set_cons_zero, List.set_cons_succ]
  go_wp2_with fail
  go_ret
  exact ⟨rfl, hg1.trans' hW⟩

theorem enc_one (l : List Str) : ∀ u ∈ l.map encStr, u.oneCell' = true := by
  intro u hu
  obtain ⟨_, _, rfl⟩ := List.mem_map.1 hu
  rfl
/-- A slice of names. -/
def SlB (w : World) (L : List Str) (e : Ending) (w' : World) : Prop :=
  ∃ A n c, e = .returned (.slice A n c) ∧ Hid (L.length = n) ∧ Rd w' A (L.map encStr) ∧ n ≤ c ∧ c ≤ maxLen ∧ Gr w w'

theorem put_there {L : List Str} {s : Str} (hs : L.Pairwise (· < ·)) (h : s ∈ L) : ofL (L ++ [s]) = L :=
  (ofL_ext hs fun t => by
    rw [List.mem_append, List.mem_singleton]
    exact ⟨.inl, fun h' => h'.elim id (fun e => e ▸ h)⟩).symm
theorem put_new {L : List Str} {s : Str} {k : Nat} (hs : L.Pairwise (· < ·)) (h1 : ∀ i (h : i < L.length), i < k → L[i] < s) (h2 : ∀ i (h : i < L.length), k ≤ i → s < L[i]) : ofL (L ++ [s]) = L.take k ++ [s] ++ L.drop k := by
  refine (ofL_ext ?_ fun t => ?_).symm
  · refine List.pairwise_append.2 ⟨List.pairwise_append.2 ⟨hs.sublist (List.take_sublist _ _), List.pairwise_singleton _ _, fun a ha b hb => ?_⟩, hs.sublist (List.drop_sublist _ _), fun a ha b hb => ?_⟩
    · obtain rfl := List.mem_singleton.1 hb
      obtain ⟨i, hi, rfl⟩ := List.mem_take_iff_getElem.1 ha
      exact h1 i (by omega) (by omega)
    · obtain ⟨i, hi, rfl⟩ := List.mem_drop_iff_getElem.1 hb
      have hb' := h2 (k + i) (by omega) (by omega)
      rcases List.mem_append.1 ha with ha | ha
      · obtain ⟨i', hi', rfl⟩ := List.mem_take_iff_getElem.1 ha
        exact str_trans (h1 i' (by omega) (by omega)) hb'
      · obtain rfl := List.mem_singleton.1 ha
        exact hb'
  · have : L.take k ++ L.drop k = L := List.take_append_drop k L
    rw [List.mem_append, List.mem_append, List.mem_append]
    constructor
    · rintro ((h | h) | h)
      · exact .inl (List.mem_of_mem_take h)
      · exact .inr h
      · exact .inl (List.mem_of_mem_drop h)
    · rintro (h | h)
      · rw [← this, List.mem_append] at h
        exact h.elim (fun h => .inl (.inl h)) .inr
      · exact .inl (.inr h)
end Go.Proofs.Ytbjkfllghkcgcaa
