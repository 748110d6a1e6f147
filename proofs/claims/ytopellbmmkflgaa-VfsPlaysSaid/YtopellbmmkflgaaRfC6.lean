/- Package cadenceref15: Crash. -/
import Derived.Test.YtopellbmmkflgaaRfC5
set_option linter.unusedVariables false
set_option linter.unusedSimpArgs false
namespace Go.Proofs.Ytopellbmmkflgaa
open Go.RowKit Go.Maps Go.Sort
attribute [local go_sem] Vc.known_tmp Vc.known_const Vc.known_func Vc.known_global Vc.lk Vc.okUpon Vc.Fact.holds
section
variable {X : Nat → Prop} {w w' : World} {p c1 c2 : Nat} {A1 A2 : Option Addr} {s : V}
theorem half_toNat (n : Nat) (h : n ≤ 1048576) : wrap64 ((n : Int) / 2) = (n : Int) / 2 := by unfold wrap64; omega
theorem enc_take (b : Str) (k : Nat) : encStr (b.take k) = .string ((⟨b.toArray⟩ : ByteArray).extract 0 k) := by
  have h : (⟨b.toArray⟩ : ByteArray).extract 0 k = ⟨(b.take k).toArray⟩ := by
    apply ByteArray.ext
    rw [ByteArray.data_extract]
    simp
  rw [h]
set_option maxRecDepth 20000 in
set_option maxHeartbeats 8000000 in
/-- (*Vfs).Crash -/
theorem rcrash_any (h : RAt w X p s) (hs : Sm s) (B : Option Addr) (n cc : Nat) (ks : List Int) (hn : Hid (ks.length = n)) (hr : Rd w B (ks.map iv)) (hl : n ≤ 9223372036854775807) :
    Calls Try.prog 41 #[.pointer (some ⟨p, 0, none⟩), .slice B n cc] w fun e w' => e = .returned (.tuple #[]) ∧ ∃ X', RAt w' X' p (s.crash ks) ∧ Mv w X w' X' := by
  have h' := h
  obtain ⟨hok, hnw, A1, c1, A2, c2, h⟩ := h
  obtain ⟨y0, _⟩ := h.cells
  have hok2 := ok_crash hok ks
  have hsl : s.since.length ≤ 1000000 := by have := hok.keptL; have := hs.ops; omega
  have hkl : s.kept.length + s.since.length ≤ 1000000 := Nat.le_trans hok.keptL hs.ops
  have hnn := hn.out
  obtain ⟨m, hm⟩ : ∃ m, s.since.length = m := ⟨_, rfl⟩
  go_enter Try.func41, Try.ntmps41
  go_wp2_with fail
  clear y0
  go_loopw [4, 5] (fun f i wr => ∃ j : Nat, j ≤ m ∧ j ≤ n ∧ i = .int .i64 j ∧ Hid (FV X w.heap.size (crashF s.kept (s.since.take j) (ks.take j)) f wr) ∧ Gr w wr) (fun _ i _ => m - (intOf i).toNat)
  case atStart => exact ⟨0, by omega, by omega, rfl, Lib.hid ⟨_, _, _, rfl, by simpa [crashF_nil] using h.kept, fun g hg => .inl (h.x1 g hg)⟩, Gr.rfl' _⟩
  case round =>
    obtain ⟨j, hj, hjn, rfl, hf, hb⟩ := hrel
    have hrm := h.gr hb
    obtain ⟨y0, y1, _⟩ := hrm.cells
    rw [hm] at y1
    by_cases hlt : j < m ∧ j < n
    · obtain ⟨hlt, hltn⟩ := hlt
      have hjl : j < s.since.length := by omega
      have hjk : j < ks.length := by omega
      obtain ⟨g, rfl, x0, x1, x2⟩ := oown_at hrm.since hjl
      have hcb := hok.sinceB s.since[j] (List.getElem_mem hjl)
      obtain ⟨kb, ko, rfl, hx⟩ := (hr.gr hb).spot (by simp; omega)
      have hx : wr.cell? ⟨kb, ko + j, none⟩ = some (.int .i64 ks[j]) := hx j _ (by rw [List.getElem?_map, List.getElem?_eq_getElem hjk]; rfl)
      have hst := crashF_succ s.since ks s.kept j hjl hjk
      obtain ⟨hri, _, hlen⟩ := crashF_ok (s.since.take j) (ks.take j) s.kept hok.kept hok.keptB (fun c hc => hok.sinceB c (List.mem_of_mem_take hc))
      rw [List.length_take] at hlen
      generalize s.since[j] = ch at *
      generalize ks[j] = kk at *
      have hx2 := (Gr.alloc1 wr (.cells #[.string ⟨ch.name.toArray⟩, .string ⟨ch.b.toArray⟩, .bool ch.gone] 88)).cell hx
      obtain ⟨A', n', c', rfl, ho, hxx⟩ := hf.out
      have hnl := fown_len ho
      have i1 : (j : Int) < (n : Int) := by omega
      have i2 : (j : Int) < (m : Int) := by omega
      have hkb : kb ≠ wr.heap.size := Nat.ne_of_lt (World.block_lt_of_cell? wr _ hx)
      generalize hL : crashF s.kept (s.since.take j) (ks.take j) = L at *
      replace hL := Lib.hid hL
      clear hf hrm
      by_cases hk1 : kk = 1
      · subst hk1
        have HW := Lib.hid (fun W (hW : Gr wr W) => with_any (ho.gr hW) hri ch (by omega))
        unfold opV at HW
        replace hst := Lib.hid (hst.trans (by simp [crashStep]) : _ = ch.act L)
        clear hri hlen hnl
        go_wp2_with (go_at_call 50; (with_reducible refine (HW.out _ (Gr.alloc1 _ _)).mono ?_); rintro e w2 ⟨A3, c3, rfl, ho3, hg3⟩)
        go_roundw
        case rel =>
          refine ⟨j + 1, by omega, by omega, by go_num, Lib.hid ⟨A3, _, c3, rfl, ?_, fun g hg => .inr (Nat.le_trans (hb.trans' (Gr.alloc1 _ _)).size (ho3.blk g hg).1)⟩, (hb.trans' (Gr.alloc1 _ _)).trans' hg3⟩
          rw [hst.out]
          exact ho3.more (fun _ _ => Nat.zero_le _)
        case measure => simp [intOf]; omega
      · have hk1' : (kk == 1) = false := by simpa using hk1
        by_cases hk2 : kk = 2
        · subst hk2
          have HW := Lib.hid (fun W (hW : Gr wr W) => with_any (ho.gr hW) hri ch.half (by omega))
          unfold opV at HW
          replace hst := Lib.hid (hst.trans (by simp [crashStep]) : _ = ch.half.act L)
          obtain ⟨bn, hbn⟩ : ∃ bn, ch.b.length = bn := ⟨_, rfl⟩
          have hsz : (⟨ch.b.toArray⟩ : ByteArray).size = bn := by simp [ByteArray.size, hbn]
          have hn0 : bn ≤ 1048576 := by have := hcb.2; unfold mostRoom at this; omega
          have hq := half_toNat bn hn0
          have hq1 : (0 : Int) ≤ (bn : Int) / 2 := by omega
          have hq2 : (bn : Int) / 2 ≤ (bn : Int) := by omega
          rw [show ch.half.name = ch.name from rfl, show ch.half.gone = ch.gone from rfl, show ch.half.b = ch.b.take (bn / 2) by rw [← hbn]; rfl] at HW
          rw [enc_take] at HW
          replace hbn := Lib.hid hbn
          have hx3 := (Gr.alloc1 wr (.cells #[.string ⟨ch.name.toArray⟩, .string ((⟨ch.b.toArray⟩ : ByteArray).extract 0 (bn / 2)), .bool ch.gone] 88)).cell hx
          clear hri hlen hnl
          go_wp2_with (go_at_call 50; (with_reducible refine (HW.out _ (Gr.alloc1 _ _)).mono ?_); rintro e w2 ⟨A3, c3, rfl, ho3, hg3⟩)
          go_roundw
          case rel =>
            refine ⟨j + 1, by omega, by omega, by go_num, Lib.hid ⟨A3, _, c3, rfl, ?_, fun g hg => .inr (Nat.le_trans (hb.trans' (Gr.alloc1 _ _)).size (ho3.blk g hg).1)⟩, (hb.trans' (Gr.alloc1 _ _)).trans' hg3⟩
            rw [hst.out]
            exact ho3.more (fun _ _ => Nat.zero_le _)
          case measure => simp [intOf]; omega
        · have hk2' : (kk == 2) = false := by simpa using hk2
          replace hst := Lib.hid (hst.trans (by simp [crashStep, hk1, hk2]) : _ = L)
          clear hri hlen hnl hk1 hk2
          go_wp2_with fail
          go_roundw
          case rel =>
            refine ⟨j + 1, by omega, by omega, by go_num, Lib.hid ⟨A', _, c', rfl, ?_, hxx⟩, hb.trans' (Gr.alloc1 _ _)⟩
            rw [hst.out]
            exact ho.gr (Gr.alloc1 _ _)
          case measure => simp [intOf]; omega
    · have hfin : crashF s.kept (s.since.take j) (ks.take j) = crashF s.kept s.since ks := crashF_take _ _ _ _ (by omega)
      rw [hfin] at hf
      obtain ⟨A', n', c', rfl, ho, hxx⟩ := hf.out
      obtain ⟨hm2, hM2⟩ := hrm.lot ho hxx hb.size
      have hm3 := hm2.set_kept ho (fun g hg => .inr hg)
      have hm4 := hm3.set_since (Own.nil _ _ _ _) (l := []) (fun g hg => by cases hg)
      have hg5 := only_trans (only_set ((wr.setCell ⟨p, 0, none⟩ (.slice A' n' c')).setCell ⟨p, 1, none⟩ (.slice none 0 0)) p 3 (.int .i64 0)) (only_set _ p 4 (.bool false))
      have hm5 := hm4.own_cells (s' := s.crash ks) (by
        have hr := (hm4.row.set 3 (.int .i64 0)).set 4 (.bool false)
        simpa [refCells, V.crash] using hr) hg5 rfl rfl
      have hM5 := (((((hM2 (Nat.le_refl _) (Mv.of_gr hb X)).own_set (i := 0) (u := .slice A' n' c') (.inl h.xp)).own_set (i := 1) (u := .slice none 0 0) (.inl h.xp)).own_set (i := 3) (u := .int .i64 0) (.inl h.xp)).own_set (i := 4) (u := .bool false) (.inl h.xp))
      have f0 := hrm.frozen 0
      have f1 := hrm.frozen 1
      have f3 := hrm.frozen 3
      have f4 := hrm.frozen 4
      have hend := Lib.hid (show RAt _ _ p (s.crash ks) from ⟨hok2, nw_crash s ks, _, _, _, _, hm5⟩)
      obtain ⟨y0, y1, y2, y3, y4, y5⟩ := hrm.cells
      rw [hm] at y1
      replace hM5 := Lib.hid hM5
      clear hf hfin hm2 hM2 hm3 hm4 hg5 hm5 hok2 hxx
      by_cases hjm : j < m
      · have hjn2 : ¬ (j : Int) < (n : Int) := by omega
        go_wp2
        exact bodyPost_end (results_none rfl _ _ _) rfl ⟨rfl, _, hend.out, hM5.out⟩
      · have hjm2 : ¬ (j : Int) < (m : Int) := by omega
        go_wp2
        exact bodyPost_end (results_none rfl _ _ _) rfl ⟨rfl, _, hend.out, hM5.out⟩
end
end Go.Proofs.Ytopellbmmkflgaa
