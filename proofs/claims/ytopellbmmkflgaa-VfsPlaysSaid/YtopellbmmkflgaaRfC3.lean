/- Package cadenceref15: Now, Names, Used, Read. -/
import Derived.Test.YtopellbmmkflgaaRfC2
set_option linter.unusedVariables false
set_option linter.unusedSimpArgs false
namespace Go.Proofs.Ytopellbmmkflgaa
open Go.RowKit Go.Maps Go.Sort
attribute [local go_sem] Vc.known_tmp Vc.known_const Vc.known_func Vc.known_global Vc.lk Vc.okUpon Vc.Fact.holds
theorem info_str : (Try.prog.info? 9).map (fun i => (i.zero, i.size, i.bytes)) = some (some (.string ByteArray.empty), 1, 16) := by kernel_rfl
section
variable {X : Nat → Prop} {w w' : World} {p c1 c2 : Nat} {A1 A2 : Option Addr} {s : V}
/-- Files, as a value: in blocks of the lot, or in new ones. -/
def FV (X : Nat → Prop) (B : Nat) (l : Files) (v : Value) (w : World) : Prop := ∃ A n c, v = .slice A n c ∧ FOwn w 0 A n c l ∧ ∀ g, blkOf A = some g → X g ∨ B ≤ g
theorem FV.gr {B : Nat} {l : Files} {v : Value} (hg : Gr w w') (h : FV X B l v w) : FV X B l v w' := by
  obtain ⟨A, n, c, e, h1, h2⟩ := h
  exact ⟨A, n, c, e, h1.gr hg, h2⟩
set_option maxHeartbeats 2000000 in
theorem now_any (h : RMem w X p A1 c1 A2 c2 s) (hok : s.Ok) (hnw : Nw s) (hs : Sm s) :
    Calls Try.prog 51 #[.pointer (some ⟨p, 0, none⟩)] w fun e w' => ∃ v, e = .returned v ∧ FV X w.heap.size s.now v w' ∧ Gr w w' := by
  have hm1 := hok.keptL
  have hm2 := hs.ops
  unfold Nw at hnw
  rw [hnw]
  have hkR := hok.kept
  clear hnw hok hs
  obtain ⟨m, hm⟩ : ∃ m, s.since.length = m := ⟨_, rfl⟩
  have h0 := h.cells.1
  go_enter Try.func51, Try.ntmps51
  go_wp2_with fail
  go_loopw [3, 4] (fun f i wr => ∃ j : Nat, j ≤ m ∧ i = .int .i64 j ∧ Hid (FV X w.heap.size (actAll s.kept (s.since.take j)) f wr) ∧ Gr w wr) (fun _ i _ => m - (intOf i).toNat)
  case atStart => exact ⟨0, by omega, rfl, Lib.hid ⟨_, _, _, rfl, h.kept, fun g hg => .inl (h.x1 g hg)⟩, Gr.rfl' _⟩
  case round =>
    obtain ⟨j, hj, rfl, hf, hb⟩ := hrel
    have hr := h.gr hb
    obtain ⟨y0, y1, _⟩ := hr.cells
    rw [hm] at y1
    by_cases hlt : j < m
    · have hjl : j < s.since.length := by omega
      obtain ⟨g, rfl, x0, x1, x2⟩ := oown_at hr.since hjl
      have hat := actAll_take s.kept s.since hjl
      have hlen := actAll_length (s.since.take j) s.kept
      rw [List.length_take] at hlen
      have hri := actAll_rising (s.since.take j) hkR
      generalize s.since[j] = ch at *
      obtain ⟨A', n', c', rfl, ho, hx⟩ := hf.out
      have hnl := fown_len ho
      have HW := Lib.hid (with_any ho hri ch (by omega))
      unfold opV at HW
      replace hat := Lib.hid hat
      clear h0 hri hr hlen hnl hf
      go_wp2_with (go_at_call 50; (with_reducible refine HW.out.mono ?_); rintro e w2 ⟨A3, c3, rfl, ho3, hg3⟩)
      go_roundw
      case rel =>
        refine ⟨j + 1, by omega, by go_num, Lib.hid ⟨A3, _, c3, rfl, ?_, fun g hg => .inr (Nat.le_trans hb.size (ho3.blk g hg).1)⟩, hb.trans' hg3⟩
        rw [hat.out]
        exact ho3.more (fun _ _ => Nat.zero_le _)
      case measure => simp [intOf]; omega
    · obtain rfl : j = m := by omega
      rw [List.take_of_length_le (by omega)] at hf
      have hf := Lib.hid hf
      clear h0
      go_wp2
      go_ret
      exact ⟨_, rfl, hf.out.out, hb⟩

set_option maxHeartbeats 1000000 in
/-- (*Vfs).Used -/
theorem rused2_any (h : RAt w X p s) (hs : Sm s) :
    Calls Try.prog 43 #[.pointer (some ⟨p, 0, none⟩)] w fun e w' => e = .returned (.int .i64 (s.now.used : Nat)) ∧ Gr w w' := by
  obtain ⟨hok, hnw, A1, c1, A2, c2, h⟩ := h
  have HN := Lib.hid (now_any h hok hnw hs)
  have husd := used_small hok hs.ops
  have hnl := hok.nowL
  have hso := hs.ops
  go_enter Try.func43, Try.ntmps43
  go_wp2_with (first
    | (go_at_call 51; (with_reducible refine HN.out.mono ?_); rintro e w2 ⟨_, rfl, ⟨A3, n3, c3, rfl, ho3, hx3⟩, hg3⟩
       have HU := Lib.hid (rused_any ho3 (by have := fown_len ho3; omega) (by unfold mostRoom at husd; omega)))
    | (go_at_call 49; (with_reducible refine HU.out.mono ?_); rintro e w4 ⟨rfl, rfl⟩))
  go_ret
  exact ⟨rfl, hg3⟩

set_option maxHeartbeats 2000000 in
/-- (*Vfs).Names -/
theorem rnames_any (h : RAt w X p s) (hs : Sm s) :
    Calls Try.prog 42 #[.pointer (some ⟨p, 0, none⟩)] w fun e w' => ∃ A' n' c', e = .returned (.slice A' n' c') ∧ n' = s.now.length ∧ Own w' w.heap.size 9 1 A' n' c' ((s.now.map (·.1)).map encStr) ∧ Gr w w' := by
  obtain ⟨hok, hnw, A1, c1, A2, c2, h⟩ := h
  have HN := Lib.hid (now_any h hok hnw hs)
  have hnl := hok.nowL
  have hso := hs.ops
  obtain ⟨i0, hi, hz0, hz1, hz2⟩ := info_parts info_str
  clear h hok hnw hs
  go_enter Try.func42, Try.ntmps42
  go_wp2_with (go_at_call 51; (with_reducible refine HN.out.mono ?_); rintro e w1 ⟨_, rfl, ⟨A3, n3, c3, rfl, ho3, hx3⟩, hg3⟩)
  have hn3 := fown_len ho3
  go_loopw [3, 5] (fun o i wr => ∃ j : Nat, j ≤ n3 ∧ i = .int .i64 j ∧ ∃ A' c', o = .slice A' j c' ∧ Own wr w1.heap.size 9 1 A' j c' (((s.now.take j).map (·.1)).map encStr) ∧ Gr w1 wr) (fun _ i _ => n3 - (intOf i).toNat)
  case atStart => exact ⟨0, by omega, rfl, none, 0, rfl, by simpa using Own.nil _ _ _ _, Gr.rfl' _⟩
  case round =>
    obtain ⟨j, hj, rfl, A', c', rfl, ho, hb⟩ := hrel
    by_cases hlt : j < n3
    · have hjl : j < s.now.length := by omega
      obtain ⟨g, rfl, x0, x1⟩ := fown_at (ho3.gr hb) hjl
      have hst := Lib.hid (show ((s.now.take (j + 1)).map (·.1)).map encStr = ((s.now.take j).map (·.1)).map encStr ++ [encStr s.now[j].1] by
        rw [List.take_succ_eq_append_getElem hjl]; simp only [List.map_append, List.map_cons, List.map_nil])
      generalize s.now[j].1 = x at *
      have hoB := Lib.hid ho
      clear ho
      go_wp2_with (at_builtin; with_reducible refine wpList_append (o := ⟨some 21, _, _, _, _, _⟩) _ rfl _ _ 30 rfl w1.heap.size 9 i0 _ 1 16 Try.underlying30 hi hz0 hz1 hz2 rfl (by omega) A' j c' _ rfl (hoB.out.gr (Gr.alloc1 _ _)) _ 1 1 [encStr x] rfl rfl (Rd.one_new _ _ _) (by simp [Value.oneCell']) (by omega) (by unfold maxLen; omega) (Nat.le_trans hb.size (Gr.alloc1 _ _).size) ?_
                   intro A6 c6 w6 ho6 hk6
                   have hG6 : Gr w1 w6 := Gr.grownBk (hb.trans' (Gr.alloc1 _ _)) hk6.grown (fun g hg => (hoB.out.blk g hg).1)
                   clear hk6)
      go_roundw
      case rel =>
        refine ⟨j + 1, by omega, by go_num, A6, c6, rfl, ?_, hG6⟩
        rw [hst.out]
        exact ho6
      case measure => simp [intOf]; omega
    · obtain rfl : j = n3 := by omega
      rw [List.take_of_length_le (by omega)] at ho
      go_wp2
      go_ret
      exact ⟨A', j, c', rfl, hn3.symm, ho.more (fun g hg => Nat.le_trans hg3.size (ho.blk g hg).1), hg3.trans' hb⟩

set_option maxHeartbeats 2000000 in
/-- (*Vfs).Read -/
theorem rread_any (h : RAt w X p s) (hs : Sm s) (n : Str) :
    Calls Try.prog 44 #[.pointer (some ⟨p, 0, none⟩), encStr n] w fun e w' =>
      e = .returned (.tuple #[encStr (s.read n).1, .bool (s.read n).2.1, .int .i64 (s.read n).2.2]) ∧ Gr w w' := by
  obtain ⟨hok, hnw, A1, c1, A2, c2, h⟩ := h
  have hnl := hok.nowL
  have hso := hs.ops
  have c4 := h.cells.2.2.2.2.1
  cases hd : s.dead with
  | true =>
    have e1 : s.read n = ([], false, 15) := by simp [V.read, hd]
    rw [e1]
    rw [hd] at c4
    go_enter Try.func44, Try.ntmps44
    go_wp2
    go_ret3
    exact ⟨rfl, Gr.rfl' _⟩
  | false =>
    have e1 : s.read n = ((s.now.get n).getD [], (s.now.get n).isSome, 0) := by simp [V.read, hd]
    rw [e1]
    rw [hd] at c4
    have HN := Lib.hid (now_any h hok hnw hs)
    clear h
    go_enter Try.func44, Try.ntmps44
    go_wp2_with (first
      | (go_at_call 51; (with_reducible refine HN.out.mono ?_); rintro e w2 ⟨_, rfl, ⟨A3, n3, c3, rfl, ho3, hx3⟩, hg3⟩
         have HU := Lib.hid (find_any ho3 n (by have := fown_len ho3; omega)))
      | (go_at_call 53; (with_reducible refine HU.out.mono ?_); rintro e w4 ⟨rfl, rfl⟩))
    go_ret3
    exact ⟨rfl, hg3⟩
end
end Go.Proofs.Ytopellbmmkflgaa
