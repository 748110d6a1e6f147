/- Package cadenceref15: find, used, op, Stop, New. -/
import Derived.Test.YtopellbmmkflgaaRfP
set_option linter.unusedVariables false
set_option linter.unusedSimpArgs false
namespace Go.Proofs.Ytopellbmmkflgaa
open Go.RowKit Go.Maps Go.Sort
theorem less_before : ∀ a b : Str, Op.bytesLess a b = bytesBefore a b
  | [], [] => rfl
  | [], _ :: _ => rfl
  | _ :: _, [] => rfl
  | a :: x, b :: y => by simp only [Op.bytesLess, bytesBefore, less_before x y]
section
variable {X : Nat → Prop} {w w' : World} {p c n B : Nat} {A : Option Addr} {l : Files} {s : V}
set_option maxHeartbeats 1000000 in
theorem find_any (hf : FOwn w B A n c l) (x : Str) (hl : n ≤ 10000000) :
    Calls Try.prog 53 #[.slice A n c, encStr x] w fun e w' => e = .returned (.tuple #[encStr ((l.get x).getD []), .bool (l.get x).isSome]) ∧ w = w' := by
  have hn := fown_len hf
  go_enter Try.func53, Try.ntmps53
  go_wp2_with fail
  go_loopw [6] (fun i wr => ∃ j : Nat, j ≤ n ∧ i = .int .i64 j ∧ Hid (∀ i (h : i < l.length), i < j → l[i].1 ≠ x) ∧ w = wr) (fun i _ => n - (intOf i).toNat)
  case atStart => exact ⟨0, by omega, rfl, Lib.hid (fun i h h' => absurd h' (by omega)), rfl⟩
  case round =>
    obtain ⟨j, hj, rfl, hlo, rfl⟩ := hrel
    by_cases hlt : j < n
    · have hjl : j < l.length := by omega
      obtain ⟨g, rfl, x0, x1⟩ := fown_at hf hjl
      by_cases he : l[j].1 = x
      · have hg := Lib.hid (get_at hjl hlo.out he)
        rw [he] at x0
        go_wp2
        go_ret2
        rw [hg.out]
        exact ⟨rfl, rfl⟩
      · have hf2 : (l[j].1 == x) = false := by simpa using he
        have hlo2 := Lib.hid (show ∀ i (h : i < l.length), i < j + 1 → l[i].1 ≠ x from fun i h h' => by
          by_cases e : i = j
          · subst e; exact he
          · exact hlo.out i h (by omega))
        clear he
        generalize l[j].1 = y at *
        go_wp2
        go_roundw
        case rel => exact ⟨j + 1, by omega, by go_num, hlo2, trivial⟩
        case measure => simp [intOf]; omega
    · obtain rfl : j = n := by omega
      have hg := Lib.hid (get_not (l := l) (n := x) (fun i h => hlo.out i h (by omega)))
      go_wp2
      go_ret2
      rw [hg.out]
      exact ⟨rfl, rfl⟩

set_option maxHeartbeats 1000000 in
theorem rused_any (hf : FOwn w B A n c l) (hl : n ≤ 10000000) (hu : l.used ≤ 4611686018427387904) :
    Calls Try.prog 49 #[.slice A n c] w fun e w' => e = .returned (.int .i64 (l.used : Nat)) ∧ w = w' := by
  have hn := fown_len hf
  go_enter Try.func49, Try.ntmps49
  go_wp2_with fail
  go_loopw [3, 4] (fun t i wr => ∃ j : Nat, j ≤ n ∧ i = .int .i64 j ∧ t = .int .i64 (Files.used (l.take j) : Nat) ∧ w = wr) (fun _ i _ => n - (intOf i).toNat)
  case atStart => exact ⟨0, by omega, rfl, by simp [Files.used], rfl⟩
  case round =>
    obtain ⟨j, hj, rfl, rfl, rfl⟩ := hrel
    by_cases hlt : j < n
    · have hjl : j < l.length := by omega
      obtain ⟨g, rfl, x0, x1⟩ := fown_at hf hjl
      have h1 := used_take_succ l hjl
      have h2 := used_take_le l (j + 1)
      have hsz : (⟨l[j].2.toArray⟩ : ByteArray).size = l[j].2.length := by simp [ByteArray.size]
      generalize l[j].2 = y at *
      generalize Files.used (l.take j) = u at *
      have hb : u + y.length ≤ 4611686018427387904 := by omega
      replace h1 := Lib.hid h1
      clear h2 hu
      go_wp2
      go_roundw
      case rel => exact ⟨j + 1, by omega, by go_num, by rw [h1.out]; go_num, trivial⟩
      case measure => simp [intOf]; omega
    · obtain rfl : j = n := by omega
      rw [List.take_of_length_le (by omega)]
      go_wp2
      go_ret
      exact ⟨rfl, rfl⟩
end
section
variable {X : Nat → Prop} {w w' : World} {p c1 c2 : Nat} {A1 A2 : Option Addr} {s : V}
set_option maxHeartbeats 1000000 in
/-- (*Vfs).op -/
theorem op_any (h : RMem w X p A1 c1 A2 c2 s) (hs : Sm s) :
    Calls Try.prog 52 #[.pointer (some ⟨p, 0, none⟩)] w fun e w' => e = .returned (.int .i64 (deadNo s.step.dead)) ∧ RMem w' X p A1 c1 A2 c2 s.step ∧ w.grownBy w' (some p) := by
  obtain ⟨c0, c1', c2', c3, c4, c5⟩ := h.cells
  have f3 := h.frozen 3
  have f4 := h.frozen 4
  have f5 := h.frozen 5
  have ho := hs.ops
  have hp := hs.stop
  by_cases hz : s.stop = 0
  · have hz' : ¬ (0 : Int) < (s.stop : Int) := by omega
    have hg := only_set w p 5 (.int .i64 ((s.ops : Int) + 1))
    have hend : RMem (w.setCell ⟨p, 5, none⟩ (.int .i64 ((s.ops : Int) + 1))) X p A1 c1 A2 c2 s.step := h.own_cells (by
      have hr := h.row.set 5 (.int .i64 ((s.ops : Int) + 1))
      simpa [refCells, V.step, hz] using hr) hg rfl rfl
    have hdd : s.step.dead = s.dead := by simp [V.step, hz]
    rw [hdd]
    replace hend := Lib.hid hend
    clear hdd
    cases hd : s.dead <;> rw [hd] at c4
    all_goals
      go_enter Try.func52, Try.ntmps52
      go_wp2
      go_ret
      exact ⟨rfl, hend.out, hg⟩
  · have hz' : (0 : Int) < (s.stop : Int) := by omega
    have key : ∀ (d : Bool), d = decide (s.stop = 1) → w.grownBy (((w.setCell ⟨p, 5, none⟩ (.int .i64 ((s.ops : Int) + 1))).setCell ⟨p, 3, none⟩ (.int .i64 ((s.stop : Int) - 1))).setCell ⟨p, 4, none⟩ (.bool d)) (some p) ∧
        RMem (((w.setCell ⟨p, 5, none⟩ (.int .i64 ((s.ops : Int) + 1))).setCell ⟨p, 3, none⟩ (.int .i64 ((s.stop : Int) - 1))).setCell ⟨p, 4, none⟩ (.bool d)) X p A1 c1 A2 c2 s.step := fun d hd => by
      have hg := only_trans (only_trans (only_set w p 5 (.int .i64 ((s.ops : Int) + 1))) (only_set _ p 3 (.int .i64 ((s.stop : Int) - 1)))) (only_set _ p 4 (.bool d))
      refine ⟨hg, h.own_cells ?_ hg rfl rfl⟩
      have hr := ((h.row.set 5 (.int .i64 ((s.ops : Int) + 1))).set 3 (.int .i64 ((s.stop : Int) - 1))).set 4 (.bool d)
      have e1 : ((s.stop - 1 : Nat) : Int) = (s.stop : Int) - 1 := by omega
      subst hd
      simpa [refCells, V.step, hz, e1] using hr
    by_cases h1 : s.stop = 1
    · have k1 := key true (by simp [h1])
      have hdd : s.step.dead = true := by simp [V.step, h1]
      rw [hdd]
      rw [h1] at c3 k1
      replace k1 := Lib.hid k1
      clear key hdd
      go_enter Try.func52, Try.ntmps52
      go_wp2
      go_ret
      exact ⟨rfl, k1.out.2, k1.out.1⟩
    · have k1 := Lib.hid (key false (by simp [h1]))
      have hdd : s.step.dead = false := by simp [V.step, hz, h1]
      rw [hdd]
      have h1' : ((s.stop : Int) - 1 == 0) = false := by simp; omega
      clear key hdd
      go_enter Try.func52, Try.ntmps52
      go_wp2
      all_goals
        go_ret
        exact ⟨rfl, k1.out.2, k1.out.1⟩
/-- (*Vfs).Stop -/
theorem rstop_any (h : RAt w X p s) (n : Int) : Calls Try.prog 40 #[.pointer (some ⟨p, 0, none⟩), .int .i64 n] w fun e w' => e = .returned (.tuple #[]) ∧ RAt w' X p (s.stopAt n) ∧ Mv w X w' X := by
  obtain ⟨hok, hnw, A1, c1, A2, c2, h⟩ := h
  have f3 := h.frozen 3
  obtain ⟨c0, c1', c2', c3, c4, c5⟩ := h.cells
  have hg := only_set w p 3 (.int .i64 (n.toNat : Nat))
  have key : RAt (w.setCell ⟨p, 3, none⟩ (.int .i64 (n.toNat : Nat))) X p (s.stopAt n) := ⟨ok_stopAt hok n, hnw, A1, c1, A2, c2, h.own_cells (by have hr := h.row.set 3 (.int .i64 (n.toNat : Nat)); simpa [refCells, V.stopAt] using hr) hg rfl rfl⟩
  rw [toNat_max] at hg key
  go_enter Try.func40, Try.ntmps40
  go_wp2
  exact bodyPost_end (results_none rfl _ _ _) rfl ⟨rfl, key, Tr.of_grown hg (fun g e => by injection e with e; exact e ▸ h.xp), fun _ h => h, fun _ h => .inl h⟩
theorem roomOf_eq2 (r : Int) : ((roomOf r : Nat) : Int) = max 0 (min r 1048576) := by unfold roomOf mostRoom; omega
/-- New -/
theorem rnew_any (r : Int) (w : World) : Calls Try.prog 25 #[.int .i64 r] w fun e w' => ∃ g X', e = .returned (.pointer (some ⟨g, 0, none⟩)) ∧ RAt w' X' g (V.new r) ∧ Gr w w' ∧ ∀ i, X' i → w.heap.size ≤ i := by
  have hr := roomOf_eq2 r
  have hcells : refCells none 0 none 0 (V.new r) = [.slice none 0 0, .slice none 0 0, .int .i64 (max 0 (min r 1048576)), .int .i64 0, .bool false, .int .i64 0] := by
    simp [refCells, V.new, hr]
  have hrow := Row.new w 75 (refCells none 0 none 0 (V.new r))
  have hG := Gr.alloc1 w (.cells (refCells none 0 none 0 (V.new r)).toArray 75)
  have hend : RAt (w.alloc (.cells (refCells none 0 none 0 (V.new r)).toArray 75)) (fun i => i = w.heap.size) w.heap.size (V.new r) :=
    ⟨ok_new r, nw_new r, none, 0, none, 0, hrow, Own.nil _ _ _ _, Own.nil _ _ _ _, rfl, (fun g hg => by cases hg), (fun g hg => by cases hg), fun i hi => by subst hi; simp⟩
  rw [hcells] at hend hG
  clear hrow hcells hr
  go_enter Try.func25, Try.ntmps25
  go_wp2
  go_ret
  exact ⟨w.heap.size, _, rfl, hend, hG, fun i hi => by omega⟩
end
end Go.Proofs.Ytopellbmmkflgaa
