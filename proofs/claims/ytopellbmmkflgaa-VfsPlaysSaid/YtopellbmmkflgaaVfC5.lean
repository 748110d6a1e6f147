/- Package vfs: Write, Flush. -/
import Derived.Test.YtopellbmmkflgaaVfC4
set_option linter.unusedVariables false
set_option linter.unusedSimpArgs false
namespace Go.Proofs.Ytopellbmmkflgaa
open Go.RowKit Go.Maps Go.Sort
attribute [local go_sem] Vc.known_tmp Vc.known_const Vc.known_func Vc.known_global Vc.lk Vc.okUpon Vc.Fact.holds
section
variable {X : Nat → Prop} {w w' : World} {p bn bk c : Nat} {A : Option Addr} {s : V}

theorem Mem.with_new (h : Mem w X p bn bk A c s) (hg : Gr w w') {A' : Option Addr} (hlt : ∀ g, blkOf A' = some g → w.heap.size ≤ g ∧ g < w'.heap.size) :
    Mem w' (fun i => X i ∨ blkOf A' = some i) p bn bk A c s ∧ Mv w X w' (fun i => X i ∨ blkOf A' = some i) := by
  have h2 := h.gr hg
  refine ⟨h2.more (fun _ h => .inl h) (fun i hi => ?_), Tr.of_gr hg, fun _ h => .inl h, fun i hi => ?_⟩
  · rcases hi with hi | hi
    · exact h2.lt i hi
    · exact (hlt i hi).2
  · rcases hi with hi | hi
    · exact .inl hi
    · exact .inr (hlt i hi).1

set_option maxHeartbeats 4000000 in
/-- (*Vfs).Write -/
theorem write_any (h : At w X p s) (hs : Sm s) (n : Str) (hn : n.length ≤ maxLen) (A2 : Option Addr) (n2 c2 : Nat) (b : Str) (hb : Hid (b.length = n2)) (hr : Rd w A2 (b.map bv)) (hl : n2 ≤ 1000000) :
    Calls Try.prog 13 #[.pointer (some ⟨p, 0, none⟩), encStr n, .slice A2 n2 c2] w fun e w' => e = .returned (.int .i64 (s.write n b).2) ∧ ∃ X', At w' X' p (s.write n b).1 ∧ Mv w X w' X' := by
  have h' := h
  obtain ⟨hok, bn, bk, A, c, h⟩ := h
  obtain ⟨c0, c1, cc2, c3, c4, c5, c6⟩ := h.cells
  have hsz : (⟨n.toArray⟩ : ByteArray).size = n.length := by simp [ByteArray.size]
  cases hd : s.dead with
  | true =>
    have e1 : s.write n b = (s, 15) := by simp [V.write, hd]
    rw [e1]
    rw [hd] at c6
    go_enter Try.func13, Try.ntmps13
    go_wp2
    go_ret
    exact ⟨rfl, X, h', Mv.rfl' _ _⟩
  | false =>
    rw [hd] at c6
    by_cases h0 : n = []
    · have e1 : s.write n b = (s, 12) := by simp [V.write, hd, h0]
      rw [e1]
      subst h0
      go_enter Try.func13, Try.ntmps13
      go_wp2
      go_ret
      exact ⟨rfl, X, h', Mv.rfl' _ _⟩
    · have hne : List.isEmpty n = false := by
        cases n with
        | nil => exact absurd rfl h0
        | cons x r => rfl
      by_cases h20 : 20 < n.length
      · have e1 : s.write n b = (s, 12) := by simp [V.write, hd, h20]
        rw [e1]
        have h20' : (20 : Int) < (n.length : Int) := by omega
        go_enter Try.func13, Try.ntmps13
        go_wp2
        go_ret
        exact ⟨rfl, X, h', Mv.rfl' _ _⟩
      · have h20' : ¬ (20 : Int) < (n.length : Int) := by omega
        obtain ⟨A1, m1, cc, hct, hrun⟩ := h.now.look hn
        obtain ⟨A1', m1', cc', e2, hlen, hle, hcm, hrd⟩ := id hct
        injection e2 with e2 e3 e4
        subst e2 e3 e4
        have hgu := get_le_used s.now n
        have husd := used_small hok hs.ops
        have hroom := hok.room
        unfold mostRoom at husd hroom
        have HU := Lib.hid (fun W hW => used_mem (w := W) (h.gr hW) hok (by omega))
        have hbl := h.now.lt
        rw [hlen] at hgu
        have hbn := hb.out
        have y0 := Lib.hid (And.intro c0 c3)
        have hrun := Lib.hid hrun
        clear c0 c1 cc2 c3 c4 c5 hct
        go_enter Try.func13, Try.ntmps13
        go_wp2_with fail
        refine Vc.wp_region_facts ⟨Gr, fun _ => Gr, fun _ W => Gr w W, []⟩ (by kernel_rfl) (by kernel_rfl) (fun _ _ _ h h' => h'.trans' h) (Gr.draw _) ?_
        repeat
          refine Vc.Walk.pure (v := ?_) (fun _ => Gr.rfl' _) rfl (by first | exact Vc.GuardYes.no rfl | exact Vc.GuardYes.yes rfl rfl) rfl rfl ?_ ?_
          rotate_left
          · intro _ W hI
            (clear hI)
            go_simp
            exact rfl
        refine Vc.Walk.call (.is (.int .i64 (s.now.used : Nat))) trivial (.no rfl) rfl rfl ?_ ?_
        · intro k W hI
          have hg := hI.g
          clear hI
          go_simp
          refine (HU.out W hg).mono ?_
          rintro e W' ⟨rfl, hg'⟩
          exact ⟨_, rfl, rfl, hg'⟩
        repeat
          refine Vc.Walk.pure (v := ?_) (fun _ => Gr.rfl' _) rfl (by first | exact Vc.GuardYes.no rfl | exact Vc.GuardYes.yes rfl rfl) rfl rfl ?_ ?_
          rotate_left
          · intro _ W hI
            (have q := hI.g; clear hI; have q0 := q.cell y0.out.1; have q3 := q.cell y0.out.2; have q1 := hrun.out W (q.block _ hbl); clear q)
            go_simp
            exact rfl
        intro W hW
        have hW : Gr w W := hW
        have hw1 : IntKind.i64.wrap ((s.now.used : Int) - (m1 : Int)) = (s.now.used : Int) - (m1 : Int) := by rw [IntKind.wrap_i64]; omega
        have hw2 : IntKind.i64.wrap ((s.now.used : Int) - (m1 : Int) + (n2 : Int)) = (s.now.used : Int) - (m1 : Int) + (n2 : Int) := by rw [IntKind.wrap_i64]; omega
        simp only [List.reverse_cons, List.reverse_nil, List.nil_append, List.cons_append, Vc.finish, Act.put, List.setIfInBounds_toArray, List.set_cons_zero, List.set_cons_succ]
        rw [hw1, hw2]
        clear hw1 hw2
        by_cases hf : s.room < s.now.used - m1 + n2
        · have e1 : s.write n b = (s, 14) := by
            simp only [V.write, hd, Bool.false_eq_true, if_false, h0, h20, or_self, hlen, hbn, if_pos hf]
          have hf' : (s.room : Int) < (s.now.used : Int) - (m1 : Int) + (n2 : Int) := by omega
          clear HU hrun
          go_wp2_with fail
          go_ret
          exact ⟨rfl, X, h'.gr hW, Mv.of_gr hW X⟩
        · have e1 : s.write n b = (s.done ⟨n, b, false⟩, deadNo (s.done ⟨n, b, false⟩).dead) := by
            simp only [V.write, hd, Bool.false_eq_true, if_false, h0, h20, or_self, hlen, hbn, if_neg hf]
          have hf' : ¬ (s.room : Int) < (s.now.used : Int) - (m1 : Int) + (n2 : Int) := by omega
          have HC := Lib.hid (cloneB_any A2 n2 c2 b W hbn (hr.gr hW) (by omega))
          have HD := Lib.hid (fun (W2 : World) (A' : Option Addr) (c' : Nat) (hg2 : Gr W W2) (ho : Own W2 W.heap.size 5 1 A' n2 c' (b.map bv)) =>
            (done_any (ch := ⟨n, b, false⟩) ((h.gr hW).with_new hg2 (fun g hg => ho.blk g hg)).1 hok hs (Cont.of_own ho (fun g hg => .inr hg)) (by simp only; omega) (by unfold mostRoom; simp only; omega)))
          unfold chV at HD
          clear HU hrun
          go_wp2_with (first
            | (go_at_call 29; (with_reducible refine HC.out.mono ?_); rintro e w2 ⟨A', c', rfl, ho, hg2⟩)
            | (go_at_call 28; (with_reducible refine (HD.out _ _ _ hg2 ho).mono ?_); rintro e w3 ⟨rfl, X', hX', hM'⟩))
          go_ret
          rw [e1]
          exact ⟨rfl, X', hX', (Mv.of_gr hW X).trans (((h.gr hW).with_new hg2 (fun g hg => ho.blk g hg)).2.trans hM')⟩

set_option maxHeartbeats 1000000 in
/-- (*Vfs).Flush -/
theorem flush_any (h : At w X p s) (hs : Sm s) :
    Calls Try.prog 19 #[.pointer (some ⟨p, 0, none⟩)] w fun e w' => e = .returned (.int .i64 s.flush.2) ∧ ∃ X', At w' X' p s.flush.1 ∧ Mv w X w' X' := by
  have h' := h
  obtain ⟨hok, bn, bk, A, c, h⟩ := h
  obtain ⟨c0, c1, cc2, c3, c4, c5, c6⟩ := h.cells
  have hok2 := ok_flush hok
  cases hd : s.dead with
  | true =>
    have e1 : s.flush = (s, 15) := by simp [V.flush, hd]
    rw [e1]
    rw [hd] at c6
    go_enter Try.func19, Try.ntmps19
    go_wp2
    go_ret
    exact ⟨rfl, X, h', Mv.rfl' _ _⟩
  | false =>
    rw [hd] at c6
    have HS := Lib.hid (step_any h hs)
    cases hsd : s.step.dead with
    | true =>
      have e1 : s.flush = (s.step, 15) := by simp [V.flush, hd, hsd]
      rw [e1]
      rw [hsd] at HS
      go_enter Try.func19, Try.ntmps19
      go_wp2_with (go_at_call 33; (with_reducible refine HS.out.mono ?_); rintro e w1 ⟨rfl, hm1, hg1⟩)
      go_ret
      exact ⟨rfl, X, ⟨ok_step hok, _, _, _, _, hm1⟩, Tr.of_grown hg1 (fun g e => by injection e with e; exact e ▸ h.xp), fun _ h => h, fun _ h => .inl h⟩
    | false =>
      have e1 : s.flush = ({ s.step with kept := s.now, since := [] }, 0) := by simp [V.flush, hd, hsd]
      rw [e1] at hok2 ⊢
      rw [hsd] at HS
      go_enter Try.func19, Try.ntmps19
      go_wp2_with (first
        | (go_at_call 33; (with_reducible refine HS.out.mono ?_); rintro e w1 ⟨rfl, hm1, hg1⟩
           have HC := Lib.hid (cloneM_any w1 hm1.now)
           have q0 := hm1.cells.1
           have f1 := hm1.frozen 1
           have f2 := hm1.frozen 2)
        | (go_at_call 34; (with_reducible refine HC.out.mono ?_); rintro e w2 ⟨rfl, hf2, hg2⟩
           have r1 := (hm1.gr hg2).frozen 1
           have r2 := (hm1.gr hg2).frozen 2
           obtain ⟨_, r3, r4, _⟩ := (hm1.gr hg2).cells))
      go_ret
      obtain ⟨hm2, hf3, hM2⟩ := hm1.cloned hg2 hf2
      have hm3 := hm2.set_kept hf3 (fun e => absurd (hm1.now.lt) (by omega)) (.inr rfl)
      have hm4 := hm3.set_since (SinceAt.nil _ _) (fun g hg => by cases hg)
      have hM1 : Mv w X w1 X := ⟨Tr.of_grown hg1 (fun g e => by injection e with e; exact e ▸ h.xp), fun _ h => h, fun _ h => .inl h⟩
      exact ⟨rfl, _, ⟨hok2, _, _, _, _, hm4⟩, ((hM1.trans hM2).own_set (.inl h.xp)).own_set (.inl h.xp)⟩
end
end Go.Proofs.Ytopellbmmkflgaa
