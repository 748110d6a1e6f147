/- Package cadenceref15: Remove, Flush. -/
import Derived.Test.YtopellbmmkflgaaRfC4
set_option linter.unusedVariables false
set_option linter.unusedSimpArgs false
namespace Go.Proofs.Ytopellbmmkflgaa
open Go.RowKit Go.Maps Go.Sort
attribute [local go_sem] Vc.known_tmp Vc.known_const Vc.known_func Vc.known_global Vc.lk Vc.okUpon Vc.Fact.holds
section
variable {X : Nat → Prop} {w w' : World} {p c1 c2 : Nat} {A1 A2 : Option Addr} {s : V}
set_option maxRecDepth 20000 in
set_option maxHeartbeats 4000000 in
/-- (*Vfs).Remove -/
theorem rremove_any (h : RAt w X p s) (hs : Sm s) (n : Str) (hn20 : (s.now.get n).isSome → n.length ≤ 20) :
    Calls Try.prog 38 #[.pointer (some ⟨p, 0, none⟩), encStr n] w fun e w' => e = .returned (.int .i64 (s.remove n).2) ∧ ∃ X', RAt w' X' p (s.remove n).1 ∧ Mv w X w' X' := by
  have h' := h
  obtain ⟨hok, hnw, A1, c1, A2, c2, h⟩ := h
  obtain ⟨y0, y1, y2, y3, y4, y5⟩ := h.cells
  cases hd : s.dead with
  | true =>
    have e1 : s.remove n = (s, 15) := by simp [V.remove, hd]
    rw [e1]
    rw [hd] at y4
    go_enter Try.func38, Try.ntmps38
    go_wp2
    go_ret
    exact ⟨rfl, X, h', Mv.rfl' _ _⟩
  | false =>
    rw [hd] at y4
    have hnl := hok.nowL
    have hkl := hok.keptL
    have hso := hs.ops
    have HN := Lib.hid (now_any h hok hnw hs)
    have HF := Lib.hid (fun (W : World) (B : Nat) (A : Option Addr) (n0 c : Nat) (hf : FOwn W B A n0 c s.now) => find_any hf n (by have := fown_len hf; omega))
    cases hg : (s.now.get n).isSome with
    | false =>
      have e1 := Lib.hid (show s.remove n = (s, 2) by simp only [V.remove, hd, hg, Bool.false_eq_true, if_false])
      rw [hg] at HF
      clear y0 y1 y2 y3 y5 hg hn20
      go_enter Try.func38, Try.ntmps38
      go_wp2_with (first
        | (go_at_call 51; (with_reducible refine HN.out.mono ?_); rintro e w2 ⟨_, rfl, ⟨A3, n3, c3, rfl, ho3, hx3⟩, hg3⟩
           have HU := Lib.hid (HF.out _ _ _ _ _ ho3))
        | (go_at_call 53; (with_reducible refine HU.out.mono ?_); rintro e w4 ⟨rfl, rfl⟩))
      go_ret
      rw [e1.out]
      exact ⟨rfl, X, h'.gr hg3, Mv.of_gr hg3 X⟩
    | true =>
      have hn20 := hn20 hg
      have e1 : s.remove n = (s.done ⟨n, [], true⟩, deadNo (s.done ⟨n, [], true⟩).dead) := by simp only [V.remove, hd, hg, Bool.false_eq_true, if_false, if_true]
      rw [hg] at HF
      have hok2 := ok_done hok (c := ⟨n, [], true⟩) hn20 (Nat.zero_le _)
      have hnw2 := nw_done hnw ⟨n, [], true⟩
      obtain ⟨i0, hi, hz0, hz1, hz2⟩ := info_parts info_op
      obtain ⟨m, hm⟩ : ∃ m, s.since.length = m := ⟨_, rfl⟩
      have hoB := Lib.hid h.since
      rw [hm] at hoB
      have hml : m ≤ 1000000 := by omega
      have HQ := Lib.hid (fun W (hW : Gr w W) => And.intro (h.gr hW).cells.1 (hm ▸ (h.gr hW).cells.2.1))
      generalize hs5 : s.done ⟨n, [], true⟩ = s5 at *
      replace hs5 := Lib.hid hs5
      replace e1 := Lib.hid e1
      replace hm := Lib.hid hm
      clear y0 y1 y2 y3 y5 hg
      go_enter Try.func38, Try.ntmps38
      go_wp2_with (first
        | (go_at_call 51; (with_reducible refine HN.out.mono ?_); rintro e W ⟨_, rfl, ⟨A3, n3, c3, rfl, ho3, hx3⟩, hW⟩
           obtain ⟨q0, q1⟩ := HQ.out W hW
           have HU := Lib.hid (HF.out _ _ _ _ _ ho3))
        | (go_at_call 53; (with_reducible refine HU.out.mono ?_); rintro e w4 ⟨rfl, rfl⟩)
        | (at_builtin; with_reducible refine wpList_append (o := ⟨some 28, _, _, _, _, _⟩) _ rfl _ _ 73 rfl 0 88 i0 _ 3 40 Try.underlying73 hi hz0 hz1 hz2 rfl (by omega) A2 m c2 _ rfl (hoB.out.gr (hW.trans' (Gr.alloc1 _ _))) _ 1 1 [encStr n, .string ByteArray.empty, .bool true] rfl rfl (Rd.new _ [encStr n, .string ByteArray.empty, .bool true] _) (by simp [Value.oneCell']) (by omega) (by unfold maxLen; omega) (Nat.zero_le _) ?_
           intro A6 c6 w6 ho6 hk6
           obtain ⟨k0, k1, hm6, hM6⟩ := ((h.gr hW).gr (Gr.alloc1 W (.cells #[encStr n, .string ByteArray.empty, .bool true] 88))).push hk6 ((⟨n, [], true⟩ : Ch).act s.now) (L := s.since ++ [⟨n, [], true⟩]) (m := m + 1) (c' := c6) (by unfold OOwn; rw [oc_snoc]; exact ho6)
           have HO := Lib.hid (op_any hm6 ⟨hs.ops, hs.stop⟩)
           rw [show V.step ({ s with now := ((⟨n, [], true⟩ : Ch).act s.now), since := s.since ++ [⟨n, [], true⟩] } : V) = s5 from hs5.out] at HO
           clear ho6 hk6 hm6)
        | (go_at_call 52; (with_reducible refine HO.out.mono ?_); rintro e w7 ⟨rfl, hm7, hg7⟩))
      go_ret
      rw [e1.out]
      exact ⟨rfl, _, ⟨hok2, hnw2, _, _, _, _, hm7⟩, ((Mv.of_gr (hW.trans' (Gr.alloc1 _ _)) X).trans hM6).op hg7 (.inl h.xp)⟩

theorem RMem.lot (h : RMem w X p A1 c1 A2 c2 s) {B : Nat} {A : Option Addr} {n c : Nat} {l : Files} (ho : FOwn w 0 A n c l) (hx : ∀ g, blkOf A = some g → X g ∨ B ≤ g) (hB : B ≤ w.heap.size) :
    RMem w (fun i => X i ∨ blkOf A = some i) p A1 c1 A2 c2 s ∧ ∀ {w0 : World}, w0.heap.size ≤ B → Mv w0 X w X → Mv w0 X w (fun i => X i ∨ blkOf A = some i) := by
  refine ⟨h.more (fun _ h => .inl h) (fun i hi => ?_), fun hw0 hM => ⟨hM.tr, fun _ h => .inl h, fun i hi => ?_⟩⟩
  · rcases hi with hi | hi
    · exact h.lt i hi
    · exact (ho.blk i hi).2
  · rcases hi with hi | hi
    · exact .inl hi
    · rcases hx i hi with h1 | h1
      · exact .inl h1
      · exact .inr (Nat.le_trans hw0 h1)

set_option maxHeartbeats 2000000 in
/-- (*Vfs).Flush -/
theorem rflush_any (h : RAt w X p s) (hs : Sm s) (hss : Sm s.step) :
    Calls Try.prog 39 #[.pointer (some ⟨p, 0, none⟩)] w fun e w' => e = .returned (.int .i64 s.flush.2) ∧ ∃ X', RAt w' X' p s.flush.1 ∧ Mv w X w' X' := by
  have h' := h
  obtain ⟨hok, hnw, A1, c1, A2, c2, h⟩ := h
  obtain ⟨y0, y1, y2, y3, y4, y5⟩ := h.cells
  have hok2 := ok_flush hok
  have hnw2 := nw_flush hnw
  cases hd : s.dead with
  | true =>
    have e1 : s.flush = (s, 15) := by simp [V.flush, hd]
    rw [e1]
    rw [hd] at y4
    go_enter Try.func39, Try.ntmps39
    go_wp2
    go_ret
    exact ⟨rfl, X, h', Mv.rfl' _ _⟩
  | false =>
    rw [hd] at y4
    have HS := Lib.hid (op_any h hs)
    cases hsd : s.step.dead with
    | true =>
      have e1 : s.flush = (s.step, 15) := by simp [V.flush, hd, hsd]
      rw [e1]
      rw [hsd] at HS
      go_enter Try.func39, Try.ntmps39
      go_wp2_with (go_at_call 52; (with_reducible refine HS.out.mono ?_); rintro e w1 ⟨rfl, hm1, hg1⟩)
      go_ret
      exact ⟨rfl, X, ⟨ok_step hok, hnw, _, _, _, _, hm1⟩, (Mv.rfl' _ _).op hg1 h.xp⟩
    | false =>
      have e1 : s.flush = ({ s.step with kept := s.now, since := [] }, 0) := by simp [V.flush, hd, hsd]
      rw [e1] at hok2 hnw2 ⊢
      rw [hsd] at HS
      clear y0 y1 y2 y3 y5
      go_enter Try.func39, Try.ntmps39
      go_wp2_with (first
        | (go_at_call 52; (with_reducible refine HS.out.mono ?_); rintro e w1 ⟨rfl, hm1, hg1⟩
           have HC := Lib.hid (now_any hm1 (ok_step hok) hnw hss))
        | (go_at_call 51; (with_reducible refine HC.out.mono ?_); rintro e w2 ⟨_, rfl, ⟨A3, n3, c3, rfl, ho3, hx3⟩, hg2⟩
           obtain ⟨r0, r1, _⟩ := (hm1.gr hg2).cells
           have z0 := (hm1.gr hg2).frozen 0
           have z1 := (hm1.gr hg2).frozen 1))
      go_ret
      obtain ⟨hm2, hM2⟩ := (hm1.gr hg2).lot ho3 hx3 hg2.size
      have hm3 := hm2.set_kept ho3 (fun g hg => .inr hg)
      have hm4 := hm3.set_since (Own.nil _ _ _ _) (l := []) (fun g hg => by cases hg)
      have hM1 := hM2 hg1.size (((Mv.rfl' w X).op hg1 h.xp).trans (Mv.of_gr hg2 X))
      exact ⟨rfl, _, ⟨hok2, hnw2, _, _, _, _, hm4⟩, (hM1.own_set (.inl h.xp)).own_set (.inl h.xp)⟩
end
end Go.Proofs.Ytopellbmmkflgaa
