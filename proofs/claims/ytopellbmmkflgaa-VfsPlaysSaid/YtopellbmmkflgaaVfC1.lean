/- Package vfs: step, do, the small ones. -/
import Derived.Test.YtopellbmmkflgaaVfL
set_option linter.unusedVariables false
set_option linter.unusedSimpArgs false
namespace Go.Proofs.Ytopellbmmkflgaa
open Go.RowKit Go.Maps Go.Sort

structure Sm (s : V) : Prop where
  ops : s.ops ≤ 1000000
  stop : s.stop ≤ 1000000
section
variable {X : Nat → Prop} {w w' : World} {p bn bk c : Nat} {A : Option Addr} {s : V}
theorem Mem.cells (h : Mem w X p bn bk A c s) : w.cell? ⟨p, 0, none⟩ = some (.map (some bn)) ∧ w.cell? ⟨p, 1, none⟩ = some (.map (some bk)) ∧ w.cell? ⟨p, 2, none⟩ = some (.slice A s.since.length c) ∧
    w.cell? ⟨p, 3, none⟩ = some (.int .i64 s.room) ∧ w.cell? ⟨p, 4, none⟩ = some (.int .i64 s.stop) ∧ w.cell? ⟨p, 5, none⟩ = some (.int .i64 s.ops) ∧ w.cell? ⟨p, 6, none⟩ = some (.bool s.dead) :=
  ⟨h.row.cell 0, h.row.cell 1, h.row.cell 2, h.row.cell 3, h.row.cell 4, h.row.cell 5, h.row.cell 6⟩
theorem Mem.frozen (h : Mem w X p bn bk A c s) (i : Nat) : w.frozen? ⟨p, i, none⟩ = false := h.row.frozen i

set_option maxHeartbeats 1000000 in
/-- (*Vfs).step -/
theorem step_any (h : Mem w X p bn bk A c s) (hs : Sm s) :
    Calls Try.prog 33 #[.pointer (some ⟨p, 0, none⟩)] w fun e w' => e = .returned (.bool s.step.dead) ∧ Mem w' X p bn bk A c s.step ∧ w.grownBy w' (some p) := by
  obtain ⟨c0, c1, c2, c3, c4, c5, c6⟩ := h.cells
  have f4 := h.frozen 4
  have f5 := h.frozen 5
  have f6 := h.frozen 6
  have ho := hs.ops
  have hp := hs.stop
  by_cases hz : s.stop = 0
  · have hz' : ¬ (0 : Int) < (s.stop : Int) := by omega
    go_enter Try.func33, Try.ntmps33
    go_wp2
    go_ret
    have hg := only_set w p 5 (.int .i64 ((s.ops : Int) + 1))
    refine ⟨by simp [V.step, hz], h.own_cells ?_ hg rfl rfl rfl, hg⟩
    have hr := h.row.set 5 (.int .i64 ((s.ops : Int) + 1))
    simpa [vfsCells, V.step, hz] using hr
  · have hz' : (0 : Int) < (s.stop : Int) := by omega
    have key : ∀ (d : Bool), d = decide (s.stop = 1) → w.grownBy (((w.setCell ⟨p, 5, none⟩ (.int .i64 ((s.ops : Int) + 1))).setCell ⟨p, 4, none⟩ (.int .i64 ((s.stop : Int) - 1))).setCell ⟨p, 6, none⟩ (.bool d)) (some p) ∧
        Mem (((w.setCell ⟨p, 5, none⟩ (.int .i64 ((s.ops : Int) + 1))).setCell ⟨p, 4, none⟩ (.int .i64 ((s.stop : Int) - 1))).setCell ⟨p, 6, none⟩ (.bool d)) X p bn bk A c s.step := fun d hd => by
      have hg := only_trans (only_trans (only_set w p 5 (.int .i64 ((s.ops : Int) + 1))) (only_set _ p 4 (.int .i64 ((s.stop : Int) - 1)))) (only_set _ p 6 (.bool d))
      refine ⟨hg, h.own_cells ?_ hg rfl rfl rfl⟩
      have hr := ((h.row.set 5 (.int .i64 ((s.ops : Int) + 1))).set 4 (.int .i64 ((s.stop : Int) - 1))).set 6 (.bool d)
      have e1 : ((s.stop - 1 : Nat) : Int) = (s.stop : Int) - 1 := by omega
      subst hd
      simpa [vfsCells, V.step, hz, e1] using hr
    by_cases h1 : s.stop = 1
    · have k1 := key true (by simp [h1])
      rw [h1] at c4 k1
      go_enter Try.func33, Try.ntmps33
      go_wp2
      go_ret
      exact ⟨by simp [V.step, h1], k1.2, k1.1⟩
    · have k1 := Lib.hid (key false (by simp [h1]))
      have h1' : ((s.stop : Int) - 1 == 0) = false := by simp; omega
      go_enter Try.func33, Try.ntmps33
      go_wp2
      all_goals
        go_ret
        exact ⟨by simp [V.step, hz, h1], k1.out.2, k1.out.1⟩

def chV (v : Value) (ch : Ch) : Value := .agg #[encStr ch.name, v, .bool ch.gone]
theorem FilesAt.conts {l : Files} {b : Nat} (h : FilesAt w X b l) (hg : w.grownBy w' (some b)) : ∀ v xs, Cont w X v xs → Cont w' X v xs := fun v xs hc =>
  hc.tr (Tr.of_grown (X := fun i => i = b) hg (fun g e => by injection e with e; exact e.symm)) (fun i _ _ hy _ e => h.no_row (hy ▸ e)) (fun _ h => h)
set_option maxHeartbeats 1000000 in
/-- do: a change is done to files. -/
theorem do_any {b : Nat} {l : Files} {ch : Ch} {v : Value} (h : FilesAt w X b l) (hv : Cont w X v ch.b) (hn : ch.name.length ≤ 20) (hl : l.length ≤ 1000000) :
    Calls Try.prog 35 #[.map (some b), chV v ch] w fun e w' => e = .returned (.tuple #[]) ∧ FilesAt w' X b (ch.act l) ∧ w.grownBy w' (some b) := by
  unfold chV
  have hk := key_of (n := ch.name) (by unfold maxLen; omega)
  have hg0 : w.grownBy (w.alloc (.cells #[encStr ch.name, v, .bool ch.gone] 63)) (some b) := World.grownBy_alloc w _ _
  have hown := Lib.hid (h.owns.alloc (.cells #[encStr ch.name, v, .bool ch.gone] 63))
  obtain ⟨A, n, c, rfl, _⟩ := id hv
  cases hgn : ch.gone with
  | true =>
    have ea : ch.act l = l.del ch.name := by simp [Ch.act, hgn]
    rw [ea]
    rw [hgn] at hg0 hown
    go_enter Try.func35, Try.ntmps35
    go_wp2_with (at_delete; refine wpList_delete_own _ rfl _ _ 56 9 rfl 31 keyed Try.underlying56 R1 b l.length _ rfl hown.out _ _ rfl hk ?_; intro w1 hown1 hturn1)
    have hg := only_trans hg0 hturn1.grown
    exact bodyPost_end (results_none rfl _ _ _) rfl ⟨rfl, h.drop hown1 (h.conts hg), hg⟩
  | false =>
    have ea : ch.act l = l.put ch.name ch.b := by simp [Ch.act, hgn]
    rw [ea]
    rw [hgn] at hg0 hown
    go_enter Try.func35, Try.ntmps35
    go_wp2_with (at_mapUpdate; refine wpList_mapUpdate_own _ rfl _ _ _ 56 rfl 9 31 keyed Try.underlying56 R1 b l.length _ rfl hown.out (by unfold maxLen; omega) _ _ _ rfl rfl hk (.held (.slice A n c)) [] rfl ?_; intro w1 hown1 hgrow1)
    have hg := only_trans hg0 hgrow1
    exact bodyPost_end (results_none rfl _ _ _) rfl ⟨rfl, h.put hv hown1 (h.conts hg), hg⟩

/-- Another map of what was flushed, or of the files as they are. -/
theorem Mem.set_kept (h : Mem w X p bn bk A c s) {b : Nat} {l : Files} (hf : FilesAt w X b l) (hne : bn ≠ b) (hx : X b) : Mem (w.setCell ⟨p, 1, none⟩ (.map (some b))) X p bn b A c { s with kept := l } := by
  have hg := only_set w p 1 (.map (some b))
  have hk := h.contOf hg (fun g e => by injection e with e; exact .inl e.symm)
  have hpb : p ≠ b := fun e => hf.no_row (e ▸ h.row)
  refine ⟨h.row.set 1 _, h.now.keep (hg.block _ h.now.lt ?_) hk, hf.keep (hg.block _ hf.lt ?_) hk, h.since.keep hg ?_ hk, hne, h.xp, h.xn, hx, h.xs, fun i hx => Nat.lt_of_lt_of_le (h.lt i hx) hg.size⟩
  · intro e; injection e with e; exact h.p_ne_now e.symm
  · intro e; injection e with e; exact hpb e.symm
  · intro g hg2 e; injection e with e; exact h.p_ne_since hg2 e
theorem Mem.set_now (h : Mem w X p bn bk A c s) {b : Nat} {l : Files} (hf : FilesAt w X b l) (hne : b ≠ bk) (hx : X b) : Mem (w.setCell ⟨p, 0, none⟩ (.map (some b))) X p b bk A c { s with now := l } := by
  have hg := only_set w p 0 (.map (some b))
  have hk := h.contOf hg (fun g e => by injection e with e; exact .inl e.symm)
  have hpb : p ≠ b := fun e => hf.no_row (e ▸ h.row)
  refine ⟨h.row.set 0 _, hf.keep (hg.block _ hf.lt ?_) hk, h.kept.keep (hg.block _ h.kept.lt ?_) hk, h.since.keep hg ?_ hk, hne, h.xp, hx, h.xk, h.xs, fun i hx => Nat.lt_of_lt_of_le (h.lt i hx) hg.size⟩
  · intro e; injection e with e; exact hpb e.symm
  · intro e; injection e with e; exact h.p_ne_kept e.symm
  · intro g hg2 e; injection e with e; exact h.p_ne_since hg2 e
/-- A map was cloned. -/
theorem Mem.cloned (h : Mem w X p bn bk A c s) {l : Files} (hg : Gr w w') (hf : FilesAt w' X w.heap.size l) :
    Mem w' (fun i => X i ∨ i = w.heap.size) p bn bk A c s ∧ FilesAt w' (fun i => X i ∨ i = w.heap.size) w.heap.size l ∧ Mv w X w' (fun i => X i ∨ i = w.heap.size) := by
  have h2 := h.gr hg
  have hlt := hf.lt
  refine ⟨h2.more (fun _ h => .inl h) (fun i hi => ?_), hf.keep rfl (fun v xs hc => hc.tr (Tr.rfl' (fun _ => False) _) (fun _ _ _ hf => hf.elim) (fun _ h => .inl h)), Tr.of_gr hg, fun _ h => .inl h, fun i hi => ?_⟩
  · rcases hi with hi | hi
    · exact h2.lt i hi
    · exact hi ▸ hlt
  · rcases hi with hi | hi
    · exact .inl hi
    · exact .inr (Nat.le_of_eq hi.symm)
theorem Mv.own_set {X X' : Nat → Prop} {w w1 : World} {p i : Nat} {u : Value} (h : Mv w X w1 X') (hp : X' p) : Mv w X (w1.setCell ⟨p, i, none⟩ u) X' :=
  h.trans ⟨Tr.of_grown (only_set w1 p i u) (fun g e => by injection e with e; exact e ▸ hp), fun _ h => h, fun _ h => .inl h⟩
end
end Go.Proofs.Ytopellbmmkflgaa
