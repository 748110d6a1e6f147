/- Package vfs: New, Read, Stop, and what is told of it. -/
import Derived.Test.YtopellbmmkflgaaVfC1
set_option linter.unusedVariables false
set_option linter.unusedSimpArgs false
namespace Go.Proofs.Ytopellbmmkflgaa
open Go.RowKit Go.Maps Go.Sort
section
variable {X : Nat → Prop} {w w' : World} {p bn bk c : Nat} {A : Option Addr} {s : V}
theorem dead_any (h : At w X p s) : Calls Try.prog 21 #[.pointer (some ⟨p, 0, none⟩)] w fun e w' => e = .returned (.bool s.dead) ∧ w' = w := by
  obtain ⟨hok, bn, bk, A, c, h⟩ := h
  obtain ⟨c0, c1, c2, c3, c4, c5, c6⟩ := h.cells
  go_enter Try.func21, Try.ntmps21
  go_wp2
  go_ret
  exact ⟨rfl, rfl⟩
theorem ops_any (h : At w X p s) : Calls Try.prog 23 #[.pointer (some ⟨p, 0, none⟩)] w fun e w' => e = .returned (.int .i64 s.ops) ∧ w' = w := by
  obtain ⟨hok, bn, bk, A, c, h⟩ := h
  obtain ⟨c0, c1, c2, c3, c4, c5, c6⟩ := h.cells
  go_enter Try.func23, Try.ntmps23
  go_wp2
  go_ret
  exact ⟨rfl, rfl⟩
theorem room_any (h : At w X p s) : Calls Try.prog 15 #[.pointer (some ⟨p, 0, none⟩)] w fun e w' => e = .returned (.int .i64 s.room) ∧ w' = w := by
  obtain ⟨hok, bn, bk, A, c, h⟩ := h
  obtain ⟨c0, c1, c2, c3, c4, c5, c6⟩ := h.cells
  go_enter Try.func15, Try.ntmps15
  go_wp2
  go_ret
  exact ⟨rfl, rfl⟩
theorem toNat_max (n : Int) : ((n.toNat : Nat) : Int) = max n 0 := by omega
/-- (*Vfs).Stop -/
theorem stop_any (h : At w X p s) (n : Int) : Calls Try.prog 22 #[.pointer (some ⟨p, 0, none⟩), .int .i64 n] w fun e w' => e = .returned (.tuple #[]) ∧ At w' X p (s.stopAt n) ∧ Mv w X w' X := by
  obtain ⟨hok, bn, bk, A, c, h⟩ := h
  have f4 := h.frozen 4
  obtain ⟨c0, c1, c2, c3, c4, c5, c6⟩ := h.cells
  have hg := only_set w p 4 (.int .i64 (n.toNat : Nat))
  have key : At (w.setCell ⟨p, 4, none⟩ (.int .i64 (n.toNat : Nat))) X p (s.stopAt n) := ⟨ok_stopAt hok n, bn, bk, A, c, h.own_cells (by have hr := h.row.set 4 (.int .i64 (n.toNat : Nat)); simpa [vfsCells, V.stopAt] using hr) hg rfl rfl rfl⟩
  rw [toNat_max] at hg key
  go_enter Try.func22, Try.ntmps22
  go_wp2
  exact bodyPost_end (results_none rfl _ _ _) rfl ⟨rfl, key, Tr.of_grown hg (fun g e => by injection e with e; exact e ▸ h.xp), fun _ h => h, fun _ h => .inl h⟩
theorem roomOf_eq (r : Int) : ((roomOf r : Nat) : Int) = min (max r 0) 1048576 := by unfold roomOf mostRoom; omega
/-- New -/
theorem new_any (r : Int) (w : World) : Calls Try.prog 12 #[.int .i64 r] w fun e w' => ∃ g X', e = .returned (.pointer (some ⟨g, 0, none⟩)) ∧ At w' X' g (V.new r) ∧ Gr w w' ∧ ∀ i, X' i → w.heap.size ≤ i := by
  have hr := roomOf_eq r
  have n1 := FilesAt.made w (fun i => w.heap.size ≤ i ∧ i < w.heap.size + 1 + 1 + 1)
  have n2 := FilesAt.made (w.alloc (.map #[] 0)) (fun i => w.heap.size ≤ i ∧ i < w.heap.size + 1 + 1 + 1)
  have hcells : vfsCells w.heap.size (w.heap.size + 1) none 0 (V.new r) = [.map (some w.heap.size), .map (some (w.heap.size + 1)), .slice none 0 0, .int .i64 (min (max r 0) 1048576), .int .i64 0, .int .i64 0, .bool false] := by
    simp [vfsCells, V.new, hr]
  have hrow := Row.new ((w.alloc (.map #[] 0)).alloc (.map #[] 0)) 59 (vfsCells w.heap.size (w.heap.size + 1) none 0 (V.new r))
  rw [hcells] at hrow
  have hG1 : Gr (w.alloc (.map #[] 0)) ((w.alloc (.map #[] 0)).alloc (.map #[] 0)) := Gr.alloc1 _ _
  have hG2 := Gr.alloc1 ((w.alloc (.map #[] 0)).alloc (.map #[] 0)) (.cells [.map (some w.heap.size), .map (some (w.heap.size + 1)), .slice none 0 0, .int .i64 (min (max r 0) 1048576), .int .i64 0, .int .i64 0, .bool false].toArray 59)
  have mk := fun w => run_makeMap (P := Try.prog) 56 w
  go_enter Try.func12, Try.ntmps12
  go_wp2
  go_ret
  have hct : ∀ {W W' : World} {X : Nat → Prop}, Gr W W' → ∀ v xs, Cont W X v xs → Cont W' X v xs := fun hg v xs hc => hc.tr (Tr.of_gr (X := fun _ => False) hg) (fun _ _ _ hf => hf.elim) (fun _ h => h)
  refine ⟨w.heap.size + 1 + 1, fun i => w.heap.size ≤ i ∧ i < w.heap.size + 1 + 1 + 1, by simp, ⟨ok_new r, w.heap.size, w.heap.size + 1, none, 0, ?_⟩, (Gr.alloc1 w _).trans' (hG1.trans' hG2), fun i h => h.1⟩
  refine ⟨by rw [hcells]; simpa using hrow, ?_, ?_, SinceAt.nil _ _, by omega, ⟨by omega, by omega⟩, ⟨Nat.le_refl _, by omega⟩, ⟨by omega, by omega⟩, (fun g hg => by cases hg), fun i hi => by simp; omega⟩
  · exact n1.keep ((hG1.trans' hG2).block _ (by simp)) (hct (hG1.trans' hG2))
  · have := n2.keep (hG2.block _ (by simp)) (hct hG2)
    rw [show (w.alloc (.map #[] 0)).heap.size = w.heap.size + 1 by simp] at this
    exact this
/-- (*Vfs).Read -/
def V.read (s : V) (n : Str) : Str × Bool × Int := if s.dead then ([], false, 15) else ((s.now.get n).getD [], (s.now.get n).isSome, 0)
theorem get_room (hok : s.Ok) (n : Str) : ((s.now.get n).getD []).length ≤ mostRoom := by
  cases h : s.now.get n with
  | none => simp
  | some b => exact (hok.nowB _ (get_some h)).2
theorem read_any (h : At w X p s) (n : Str) (hn : n.length ≤ maxLen) : Calls Try.prog 16 #[.pointer (some ⟨p, 0, none⟩), encStr n] w fun e w' =>
    ∃ A' m c', e = .returned (.tuple #[.slice A' m c', .bool (s.read n).2.1, .int .i64 (s.read n).2.2]) ∧ m = (s.read n).1.length ∧ Own w' w.heap.size 5 1 A' m c' ((s.read n).1.map bv) ∧ Gr w w' := by
  obtain ⟨hok, bn, bk, A, c, h⟩ := h
  obtain ⟨c0, c1, c2, c3, c4, c5, c6⟩ := h.cells
  cases hd : s.dead with
  | true =>
    have e1 : s.read n = ([], false, 15) := by simp [V.read, hd]
    rw [e1]
    rw [hd] at c6
    go_enter Try.func16, Try.ntmps16
    go_wp2
    go_ret3
    exact ⟨none, 0, 0, rfl, rfl, Own.nil _ _ _ _, Gr.rfl' _⟩
  | false =>
    have e1 : s.read n = ((s.now.get n).getD [], (s.now.get n).isSome, 0) := by simp [V.read, hd]
    rw [e1]
    rw [hd] at c6
    obtain ⟨A1, m1, cc, hc, hrun⟩ := h.now.look_ok hn
    have hl := hrun w rfl
    obtain ⟨A2, m2, c2', e2, hlen, hle, hcm, hrd⟩ := id hc
    injection e2 with e2 e3 e4
    subst e2 e3 e4
    have hm := get_room hok n
    have HC := Lib.hid (cloneB_any A1 m1 cc _ w hlen hrd.rd (by unfold mostRoom at hm; omega))
    clear hrun hc
    go_enter Try.func16, Try.ntmps16
    go_wp2_with (go_at_call 29; (with_reducible refine HC.out.mono ?_); rintro e w2 ⟨A', c', rfl, ho, hg⟩)
    go_ret3
    exact ⟨A', m1, c', rfl, hlen.symm, ho, hg⟩
end
end Go.Proofs.Ytopellbmmkflgaa
