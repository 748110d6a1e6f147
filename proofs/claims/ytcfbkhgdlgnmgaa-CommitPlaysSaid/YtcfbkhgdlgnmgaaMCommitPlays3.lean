/-
  The statement of 'CommitPlays': the Go function returns true at every input, and its arguments read as before.
  Conditions: none.
-/
import Derived.Test.YtcfbkhgdlgnmgaaMCommitPlays2
import Derived.Deep.QuietTactic
import Derived.BigQuiet
import Derived.Test.YtcfbkhgdlgnmgaaRows
import Derived.SizedLaws
set_option linter.unusedVariables false
set_option linter.unusedSimpArgs false
namespace Go.Proofs.Ytcfbkhgdlgnmgaa
open Go.RowKit Go.Maps Go.Sort
theorem less_before : ∀ a b : Str, Op.bytesLess a b = bytesBefore a b
  | [], [] => rfl
  | [], _ :: _ => rfl
  | _ :: _, [] => rfl
  | a :: x, b :: y => by simp only [Op.bytesLess, bytesBefore, less_before x y]
section
variable {X : Nat → Prop} {w w' : World} {p c n B : Nat} {A : Option Addr} {l : Files} {s : V}
set_option maxHeartbeats 1000000 in
theorem find_any (hf : FOwn w B A n c l) (x : Str) (hl : n ≤ 10000000) :
    Calls Try.prog 77 #[.slice A n c, encStr x] w fun e w' => e = .returned (.tuple #[encStr ((l.get x).getD []), .bool (l.get x).isSome]) ∧ w = w' := by
  have hn := fown_len hf
  go_enter Try.func77, Try.ntmps77
  go_wp2_with fail
  go_loopw [6] (fun i wr => ∃ j : Nat, j ≤ n ∧ i = .int .i64 j ∧ Hid (∀ i (h : i < l.length), i < j → l[i].1 ≠ x) ∧ w = wr) (fun i _ => n - (intOf i).toNat)
  case atStart => exact ⟨0, by omega, rfl, Lib.hid (fun i h h' => absurd h' (by omega)), rfl⟩
  case round =>
    obtain ⟨j, hj, rfl, hlo, rfl⟩ := hrel
    by_cases hlt : j < n
    · have hjl : j < l.length := by omega
      obtain ⟨g, rfl, x0, x1⟩ := fown_at hf hjl
      by_cases he : l[j].1 = x
      · have hg := Lib.hid (get_at hjl hlo.out he)
        rw [he] at x0
        go_wp2
        go_ret2
        rw [hg.out]
        exact ⟨rfl, rfl⟩
      · have hf2 : (l[j].1 == x) = false := by simpa using he
        have hlo2 := Lib.hid (show ∀ i (h : i < l.length), i < j + 1 → l[i].1 ≠ x from fun i h h' => by
          by_cases e : i = j
          · subst e; exact he
          · exact hlo.out i h (by omega))
        clear he
        generalize l[j].1 = y at *
        go_wp2
        go_roundw
        case rel => exact ⟨j + 1, by omega, by go_num, hlo2, trivial⟩
        case measure => simp [intOf]; omega
    · obtain rfl : j = n := by omega
      have hg := Lib.hid (get_not (l := l) (n := x) (fun i h => hlo.out i h (by omega)))
      go_wp2
      go_ret2
      rw [hg.out]
      exact ⟨rfl, rfl⟩
set_option maxHeartbeats 1000000 in
theorem rused_any (hf : FOwn w B A n c l) (hl : n ≤ 10000000) (hu : l.used ≤ 4611686018427387904) :
    Calls Try.prog 75 #[.slice A n c] w fun e w' => e = .returned (.int .i64 (l.used : Nat)) ∧ w = w' := by
  have hn := fown_len hf
  go_enter Try.func75, Try.ntmps75
  go_wp2_with fail
  go_loopw [3, 4] (fun t i wr => ∃ j : Nat, j ≤ n ∧ i = .int .i64 j ∧ t = .int .i64 (Files.used (l.take j) : Nat) ∧ w = wr) (fun _ i _ => n - (intOf i).toNat)
  case atStart => exact ⟨0, by omega, rfl, by simp [Files.used], rfl⟩
  case round =>
    obtain ⟨j, hj, rfl, rfl, rfl⟩ := hrel
    by_cases hlt : j < n
    · have hjl : j < l.length := by omega
      obtain ⟨g, rfl, x0, x1⟩ := fown_at hf hjl
      have h1 := used_take_succ l hjl
      have h2 := used_take_le l (j + 1)
      have hsz : (⟨l[j].2.toArray⟩ : ByteArray).size = l[j].2.length := by simp [ByteArray.size]
      generalize l[j].2 = y at *
      generalize Files.used (l.take j) = u at *
      have hb : u + y.length ≤ 4611686018427387904 := by omega
      replace h1 := Lib.hid h1
      clear h2 hu
      go_wp2
      go_roundw
      case rel => exact ⟨j + 1, by omega, by go_num, by rw [h1.out]; go_num, trivial⟩
      case measure => simp [intOf]; omega
    · obtain rfl : j = n := by omega
      rw [List.take_of_length_le (by omega)]
      go_wp2
      go_ret
      exact ⟨rfl, rfl⟩
end
section
variable {X : Nat → Prop} {w w' : World} {p c1 c2 : Nat} {A1 A2 : Option Addr} {s : V}
set_option maxHeartbeats 1000000 in
theorem op_any (h : RMem w X p A1 c1 A2 c2 s) (hs : Sm s) :
    Calls Try.prog 78 #[.pointer (some ⟨p, 0, none⟩)] w fun e w' => e = .returned (.int .i64 (deadNo s.step.dead)) ∧ RMem w' X p A1 c1 A2 c2 s.step ∧ w.grownBy w' (some p) := by
  obtain ⟨c0, c1', c2', c3, c4, c5⟩ := h.cells
  have f3 := h.frozen 3
  have f4 := h.frozen 4
  have f5 := h.frozen 5
  have ho := hs.ops
  have hp := hs.stop
  by_cases hz : s.stop = 0
  · have hz' : ¬ (0 : Int) < (s.stop : Int) := by omega
    have hg := only_set w p 5 (.int .i64 ((s.ops : Int) + 1))
    have hend : RMem (w.setCell ⟨p, 5, none⟩ (.int .i64 ((s.ops : Int) + 1))) X p A1 c1 A2 c2 s.step := h.own_cells (by
      have hr := h.row.set 5 (.int .i64 ((s.ops : Int) + 1))
      simpa [refCells, V.step, hz] using hr) hg rfl rfl
    have hdd : s.step.dead = s.dead := by simp [V.step, hz]
    rw [hdd]
    replace hend := Lib.hid hend
    clear hdd
    cases hd : s.dead <;> rw [hd] at c4
    all_goals
      go_enter Try.func78, Try.ntmps78
      go_wp2
      go_ret
      exact ⟨rfl, hend.out, hg⟩
  · have hz' : (0 : Int) < (s.stop : Int) := by omega
    have key : ∀ (d : Bool), d = decide (s.stop = 1) → w.grownBy (((w.setCell ⟨p, 5, none⟩ (.int .i64 ((s.ops : Int) + 1))).setCell ⟨p, 3, none⟩ (.int .i64 ((s.stop : Int) - 1))).setCell ⟨p, 4, none⟩ (.bool d)) (some p) ∧
        RMem (((w.setCell ⟨p, 5, none⟩ (.int .i64 ((s.ops : Int) + 1))).setCell ⟨p, 3, none⟩ (.int .i64 ((s.stop : Int) - 1))).setCell ⟨p, 4, none⟩ (.bool d)) X p A1 c1 A2 c2 s.step := fun d hd => by
      have hg := only_trans (only_trans (only_set w p 5 (.int .i64 ((s.ops : Int) + 1))) (only_set _ p 3 (.int .i64 ((s.stop : Int) - 1)))) (only_set _ p 4 (.bool d))
      refine ⟨hg, h.own_cells ?_ hg rfl rfl⟩
      have hr := ((h.row.set 5 (.int .i64 ((s.ops : Int) + 1))).set 3 (.int .i64 ((s.stop : Int) - 1))).set 4 (.bool d)
      have e1 : ((s.stop - 1 : Nat) : Int) = (s.stop : Int) - 1 := by omega
      subst hd
      simpa [refCells, V.step, hz, e1] using hr
    by_cases h1 : s.stop = 1
    · have k1 := key true (by simp [h1])
      have hdd : s.step.dead = true := by simp [V.step, h1]
      rw [hdd]
      rw [h1] at c3 k1
      replace k1 := Lib.hid k1
      clear key hdd
      go_enter Try.func78, Try.ntmps78
      go_wp2
      go_ret
      exact ⟨rfl, k1.out.2, k1.out.1⟩
    · have k1 := Lib.hid (key false (by simp [h1]))
      have hdd : s.step.dead = false := by simp [V.step, hz, h1]
      rw [hdd]
      have h1' : ((s.stop : Int) - 1 == 0) = false := by simp; omega
      clear key hdd
      go_enter Try.func78, Try.ntmps78
      go_wp2
      all_goals
        go_ret
        exact ⟨rfl, k1.out.2, k1.out.1⟩
theorem rstop_any (h : RAt w X p s) (n : Int) : Calls Try.prog 28 #[.pointer (some ⟨p, 0, none⟩), .int .i64 n] w fun e w' => e = .returned (.tuple #[]) ∧ RAt w' X p (s.stopAt n) ∧ Mv w X w' X := by
  obtain ⟨hok, hnw, A1, c1, A2, c2, h⟩ := h
  have f3 := h.frozen 3
  obtain ⟨c0, c1', c2', c3, c4, c5⟩ := h.cells
  have hg := only_set w p 3 (.int .i64 (n.toNat : Nat))
  have key : RAt (w.setCell ⟨p, 3, none⟩ (.int .i64 (n.toNat : Nat))) X p (s.stopAt n) := ⟨ok_stopAt hok n, hnw, A1, c1, A2, c2, h.own_cells (by have hr := h.row.set 3 (.int .i64 (n.toNat : Nat)); simpa [refCells, V.stopAt] using hr) hg rfl rfl⟩
  rw [toNat_max] at hg key
  go_enter Try.func28, Try.ntmps28
  go_wp2
  exact bodyPost_end (results_none rfl _ _ _) rfl ⟨rfl, key, Tr.of_grown hg (fun g e => by injection e with e; exact e ▸ h.xp), fun _ h => h, fun _ h => .inl h⟩
theorem roomOf_eq2 (r : Int) : ((roomOf r : Nat) : Int) = max 0 (min r 1048576) := by unfold roomOf mostRoom; omega
theorem rnew_any (r : Int) (w : World) : Calls Try.prog 27 #[.int .i64 r] w fun e w' => ∃ g X', e = .returned (.pointer (some ⟨g, 0, none⟩)) ∧ RAt w' X' g (V.new r) ∧ Gr w w' ∧ ∀ i, X' i → w.heap.size ≤ i := by
  have hr := roomOf_eq2 r
  have hcells : refCells none 0 none 0 (V.new r) = [.slice none 0 0, .slice none 0 0, .int .i64 (max 0 (min r 1048576)), .int .i64 0, .bool false, .int .i64 0] := by
    simp [refCells, V.new, hr]
  have hrow := Row.new w 90 (refCells none 0 none 0 (V.new r))
  have hG := Gr.alloc1 w (.cells (refCells none 0 none 0 (V.new r)).toArray 90)
  have hend : RAt (w.alloc (.cells (refCells none 0 none 0 (V.new r)).toArray 90)) (fun i => i = w.heap.size) w.heap.size (V.new r) :=
    ⟨ok_new r, nw_new r, none, 0, none, 0, hrow, Own.nil _ _ _ _, Own.nil _ _ _ _, rfl, (fun g hg => by cases hg), (fun g hg => by cases hg), fun i hi => by subst hi; simp⟩
  rw [hcells] at hend hG
  clear hrow hcells hr
  go_enter Try.func27, Try.ntmps27
  go_wp2
  go_ret
  exact ⟨w.heap.size, _, rfl, hend, hG, fun i hi => by omega⟩
end
end Go.Proofs.Ytcfbkhgdlgnmgaa
set_option linter.unusedVariables false
set_option linter.unusedSimpArgs false
namespace Go.Proofs.Ytcfbkhgdlgnmgaa
open Go.RowKit Go.Maps Go.Sort
theorem info_file : (Try.prog.info? 115).map (fun i => (i.zero, i.size, i.bytes)) = some (some (.agg #[.string ByteArray.empty, .string ByteArray.empty]), 2, 32) := by kernel_rfl
theorem info_op : (Try.prog.info? 96).map (fun i => (i.zero, i.size, i.bytes)) = some (some (.agg #[.string ByteArray.empty, .string ByteArray.empty, .bool false]), 3, 40) := by kernel_rfl
def opV (ch : Ch) : Value := .agg #[encStr ch.name, encStr ch.b, .bool ch.gone]
def FRes (w w' : World) (e : Ending) (l : Files) : Prop := ∃ A' c', e = .returned (.slice A' l.length c') ∧ FOwn w' w.heap.size A' l.length c' l ∧ Gr w w'
section
variable {w w' : World} {c n B : Nat} {A : Option Addr} {l : Files}
theorem fown_drop (hf : FOwn w B A n c l) {g k : Nat} (hA : A = some ⟨g, 0, none⟩) : Rd w (some ⟨g, k * 2, none⟩) ((l.drop k).flatMap fc) := by
  subst hA
  have h := hf.rd.drop (k * 2)
  rw [flat_drop fc_len] at h
  simpa [add_plain] using h
theorem take_snoc {l : Files} {j : Nat} (h : j < l.length) : (l.take (j + 1)).flatMap fc = (l.take j).flatMap fc ++ fc l[j] := by
  rw [List.take_succ_eq_append_getElem h, List.flatMap_append]
  simp
theorem fres_end {B' n' n'' c' : Nat} {A' : Option Addr} {xs : List Value} {L : Files} {e : Ending} (ho : Own w' B' 115 2 A' n' c' xs) (hx : xs = L.flatMap fc) (hB : w.heap.size ≤ B') (hg : Gr w w') (he : e = .returned (.slice A' n'' c')) (hn : n'' = n') : FRes w w' e L := by
  subst hn
  subst hx
  obtain rfl := fown_len ho
  exact ⟨A', c', he, ho.more (fun g hg => Nat.le_trans hB (ho.blk g hg).1), hg⟩
set_option maxRecDepth 20000 in
set_option maxHeartbeats 4000000 in
theorem with_any (hf : FOwn w B A n c l) (hR : l.Rising) (ch : Ch) (hl : n ≤ 1000000) :
    Calls Try.prog 60 #[.slice A n c, opV ch] w fun e w' => FRes w w' e (ch.act l) := by
  have hn := fown_len hf
  have hnc := hf.le.1
  have hcm := hf.le.2
  obtain ⟨i0, hi, hz0, hz1, hz2⟩ := info_parts info_file
  unfold opV
  replace hR := Lib.hid hR
  go_enter Try.func60, Try.ntmps60
  go_wp2_with fail
  have hrow := Row.new w 96 [encStr ch.name, encStr ch.b, .bool ch.gone]
  have hg1 := Gr.alloc1 w (.cells [encStr ch.name, encStr ch.b, .bool ch.gone].toArray 96)
  have hf1 := hf.gr hg1
  have hsz := hrow.lt
  generalize hg0 : w.heap.size = g0 at *
  generalize hw1 : w.alloc (.cells #[encStr ch.name, encStr ch.b, .bool ch.gone] 96) = w1 at *
  go_loopw [5, 6] (fun o i wr => ∃ j : Nat, j ≤ n ∧ i = .int .i64 j ∧ ∃ A' c', o = .slice A' j c' ∧ FOwn wr w1.heap.size A' j c' (l.take j) ∧ Hid (∀ i (h : i < l.length), i < j → bytesBefore l[i].1 ch.name = true) ∧ Gr w1 wr) (fun _ i _ => n - (intOf i).toNat)
  case atStart => exact ⟨0, by omega, rfl, none, 0, rfl, Own.nil _ _ _ _, Lib.hid (fun i h h' => absurd h' (by omega)), Gr.rfl' _⟩
  case round =>
    obtain ⟨j, hj, rfl, A', c', rfl, ho, hlo, hb⟩ := hrel
    have hrw := hrow.gr hb
    have y0 := hrw.cell 0
    have y1 := hrw.cell 1
    have y2 := hrw.cell 2
    simp only [List.getElem?_cons_zero, List.getElem?_cons_succ] at y0 y1 y2
    by_cases hlt : j < n
    · have hjl : j < l.length := by omega
      have hfr := hf1.gr hb
      obtain ⟨g, rfl, x0, x1⟩ := fown_at hfr hjl
      by_cases hbb : bytesBefore l[j].1 ch.name = true
      · have hbl : Op.bytesLess l[j].1 ch.name = true := by rw [less_before]; exact hbb
        have hlo2 := Lib.hid (show ∀ i (h : i < l.length), i < j + 1 → bytesBefore l[i].1 ch.name = true from fun i h h' => by
          by_cases e : i = j
          · subst e; exact hbb
          · exact hlo.out i h (by omega))
        have hst := Lib.hid (take_snoc hjl)
        generalize hx : l[j] = x at *
        clear hbb
        replace hx := Lib.hid hx
        have hoB := Lib.hid ho
        go_wp2_with fail
        go_quiet (fail)
        go_wp2_with (first
          | (at_builtin; with_reducible refine wpList_append (o := ⟨some 27, _, _, _, _, _⟩) _ rfl _ _ 87 rfl w1.heap.size 115 i0 _ 2 32 Try.underlying87 hi hz0 hz1 hz2 rfl (by omega) A' j c' _ rfl (hoB.out.gr ((Gr.drawN _ _).trans' (Gr.alloc1 _ _))) _ 1 1 [encStr x.1, encStr x.2] rfl rfl (Rd.new _ [encStr x.1, encStr x.2] _) (by simp [Value.oneCell']) (by omega) (by unfold maxLen; omega) ((hb.trans' (Gr.drawN _ _)).trans' (Gr.alloc1 _ _)).size ?_
             intro A6 c6 w6 ho6 hk6
             have hG6 : Gr w1 w6 := Gr.grownBk (hb.trans' ((Gr.drawN _ _).trans' (Gr.alloc1 _ _))) hk6.grown (fun g hg => (hoB.out.blk g hg).1)
             clear hk6))
        go_roundw
        case rel =>
          refine ⟨j + 1, by omega, by go_num, A6, c6, rfl, ?_, hlo2, hG6⟩
          unfold FOwn
          rw [hst.out]
          exact ho6
        case measure => simp [intOf]; omega
      · have hbf : bytesBefore l[j].1 ch.name = false := by simpa using hbb
        have hbl : Op.bytesLess l[j].1 ch.name = false := by rw [less_before]; exact hbf
        have hact := act_split (c := ch) hR.out (Nat.le_of_lt hjl) hlo.out (fun _ => hbf)
        have hoB := Lib.hid ho
        clear ho hbb
        by_cases he : l[j].1 = ch.name
        · rw [show withK l ch.name j = j + 1 by simp [withK, hjl, he]] at hact
          rw [he] at x0 hbl
          replace hact := Lib.hid hact
          have hx := Lib.hid (show l[j].1 = ch.name from he)
          clear he hbf
          by_cases hj1 : j + 1 < n
          · cases hgn : ch.gone <;> rw [hgn] at y2
            · go_wp2_with fail
              go_quiet (fail)
              go_wp2_with (at_builtin; with_reducible refine wpList_append (o := ⟨some 40, _, _, _, _, _⟩) _ rfl _ _ 87 rfl w1.heap.size 115 i0 _ 2 32 Try.underlying87 hi hz0 hz1 hz2 rfl (by omega) A' j c' _ rfl (hoB.out.gr ((Gr.drawN _ _).trans' (Gr.alloc1 _ _))) _ 1 1 [encStr ch.name, encStr ch.b] rfl rfl (Rd.new _ [encStr ch.name, encStr ch.b] _) (by simp [Value.oneCell']) (by omega) (by unfold maxLen; omega) ((hb.trans' (Gr.drawN _ _)).trans' (Gr.alloc1 _ _)).size ?_
                           intro A5 c5 w5 ho5 hk5
                           have hb5 : Gr w1 w5 := Gr.grownBk (hb.trans' ((Gr.drawN _ _).trans' (Gr.alloc1 _ _))) hk5.grown (fun g hg => (hoB.out.blk g hg).1)
                           have hoZ := Lib.hid ho5
                           clear hk5 ho5 y0 y1 y2 x0 x1
                           have y0 : w5.cell? ⟨g0, 0, none⟩ = some (encStr ch.name) := (hrow.gr hb5).cell 0
                           have x0 := Lib.hid (hf1.gr hb5); obtain ⟨g', e', x1, x2⟩ := fown_at x0.out hjl; obtain rfl : g = g' := (by injection e' with e'; injection e'); rw [hx.out] at x1; clear x2 e' x0)
              go_quiet (fail)
              go_wp2_with (at_builtin; with_reducible refine wpList_append (o := ⟨some 61, _, _, _, _, _⟩) _ rfl _ _ 87 rfl w1.heap.size 115 i0 _ 2 32 Try.underlying87 hi hz0 hz1 hz2 rfl (by omega) A5 (j + 1) c5 _ rfl (hoZ.out.gr (Gr.drawN _ _)) (some ⟨g, (j + 1) * 2, none⟩) (n - (j + 1)) _ ((l.drop (j + 1)).flatMap fc) rfl (by rw [flat_len fc_len, List.length_drop, hn]) ((fown_drop (k := (j + 1)) (hf1.gr hb5) rfl).gr (Gr.drawN _ _)) (fc_one _) (by omega) (by unfold maxLen; omega) (hb5.trans' (Gr.drawN _ _)).size ?_
                           intro A7 c7 w7 ho7 hk7
                           have hb7 : Gr w1 w7 := Gr.grownBk (hb5.trans' (Gr.drawN _ _)) hk7.grown (fun g hg => (hoZ.out.blk g hg).1)
                           clear hk7)
              all_goals
                go_ret
                refine fres_end ho7 ?_ (by omega) (hg1.trans' hb7) rfl (by omega)
                rw [hact.out, hgn]
                first | (simp [fc]; done) | (simp; rw [← List.flatMap_append, List.take_append_drop])
            · go_wp2_with fail
              go_quiet (fail)
              have hoZ := hoB
              have hb5 := hb
              go_wp2_with fail
              go_quiet (fail)
              go_wp2_with (at_builtin; with_reducible refine wpList_append (o := ⟨some 61, _, _, _, _, _⟩) _ rfl _ _ 87 rfl w1.heap.size 115 i0 _ 2 32 Try.underlying87 hi hz0 hz1 hz2 rfl (by omega) A' j c' _ rfl (hoZ.out.gr (Gr.drawN _ _)) (some ⟨g, (j + 1) * 2, none⟩) (n - (j + 1)) _ ((l.drop (j + 1)).flatMap fc) rfl (by rw [flat_len fc_len, List.length_drop, hn]) ((fown_drop (k := (j + 1)) (hf1.gr hb5) rfl).gr (Gr.drawN _ _)) (fc_one _) (by omega) (by unfold maxLen; omega) (hb5.trans' (Gr.drawN _ _)).size ?_
                           intro A7 c7 w7 ho7 hk7
                           have hb7 : Gr w1 w7 := Gr.grownBk (hb5.trans' (Gr.drawN _ _)) hk7.grown (fun g hg => (hoZ.out.blk g hg).1)
                           clear hk7)
              all_goals
                go_ret
                refine fres_end ho7 ?_ (by omega) (hg1.trans' hb7) rfl (by omega)
                rw [hact.out, hgn]
                first | (simp [fc]; done) | (simp; rw [← List.flatMap_append, List.take_append_drop])
          · have hj2 : n ≤ j + 1 := by omega
            cases hgn : ch.gone <;> rw [hgn] at y2
            · go_wp2_with fail
              go_quiet (fail)
              go_wp2_with (at_builtin; with_reducible refine wpList_append (o := ⟨some 40, _, _, _, _, _⟩) _ rfl _ _ 87 rfl w1.heap.size 115 i0 _ 2 32 Try.underlying87 hi hz0 hz1 hz2 rfl (by omega) A' j c' _ rfl (hoB.out.gr ((Gr.drawN _ _).trans' (Gr.alloc1 _ _))) _ 1 1 [encStr ch.name, encStr ch.b] rfl rfl (Rd.new _ [encStr ch.name, encStr ch.b] _) (by simp [Value.oneCell']) (by omega) (by unfold maxLen; omega) ((hb.trans' (Gr.drawN _ _)).trans' (Gr.alloc1 _ _)).size ?_
                           intro A5 c5 w5 ho5 hk5
                           have hb5 : Gr w1 w5 := Gr.grownBk (hb.trans' ((Gr.drawN _ _).trans' (Gr.alloc1 _ _))) hk5.grown (fun g hg => (hoB.out.blk g hg).1)
                           have hoZ := Lib.hid ho5
                           clear hk5 ho5 y0 y1 y2 x0 x1
                           have y0 : w5.cell? ⟨g0, 0, none⟩ = some (encStr ch.name) := (hrow.gr hb5).cell 0
                           have x0 := Lib.hid (hf1.gr hb5); obtain ⟨g', e', x1, x2⟩ := fown_at x0.out hjl; obtain rfl : g = g' := (by injection e' with e'; injection e'); rw [hx.out] at x1; clear x2 e' x0)
              go_quiet (fail)
              go_wp2_with (at_builtin; with_reducible refine wpList_append (o := ⟨some 61, _, _, _, _, _⟩) _ rfl _ _ 87 rfl w1.heap.size 115 i0 _ 2 32 Try.underlying87 hi hz0 hz1 hz2 rfl (by omega) A5 (j + 1) c5 _ rfl (hoZ.out.gr (Gr.drawN _ _)) _ 0 _ (([] : Files).flatMap fc) rfl rfl (Rd.nil _ _) (fc_one _) (by omega) (by unfold maxLen; omega) (hb5.trans' (Gr.drawN _ _)).size ?_
                           intro A7 c7 w7 ho7 hk7
                           have hb7 : Gr w1 w7 := Gr.grownBk (hb5.trans' (Gr.drawN _ _)) hk7.grown (fun g hg => (hoZ.out.blk g hg).1)
                           clear hk7)
              all_goals
                go_ret
                refine fres_end ho7 ?_ (by omega) (hg1.trans' hb7) rfl (by omega)
                rw [hact.out, hgn]
                simp [fc, List.drop_of_length_le (show l.length ≤ (j + 1) by omega)]
            · go_wp2_with fail
              go_quiet (fail)
              have hoZ := hoB
              have hb5 := hb
              go_wp2_with fail
              go_quiet (fail)
              go_wp2_with (at_builtin; with_reducible refine wpList_append (o := ⟨some 61, _, _, _, _, _⟩) _ rfl _ _ 87 rfl w1.heap.size 115 i0 _ 2 32 Try.underlying87 hi hz0 hz1 hz2 rfl (by omega) A' j c' _ rfl (hoZ.out.gr (Gr.drawN _ _)) _ 0 _ (([] : Files).flatMap fc) rfl rfl (Rd.nil _ _) (fc_one _) (by omega) (by unfold maxLen; omega) (hb5.trans' (Gr.drawN _ _)).size ?_
                           intro A7 c7 w7 ho7 hk7
                           have hb7 : Gr w1 w7 := Gr.grownBk (hb5.trans' (Gr.drawN _ _)) hk7.grown (fun g hg => (hoZ.out.blk g hg).1)
                           clear hk7)
              all_goals
                go_ret
                refine fres_end ho7 ?_ (by omega) (hg1.trans' hb7) rfl (by omega)
                rw [hact.out, hgn]
                simp [fc, List.drop_of_length_le (show l.length ≤ (j + 1) by omega)]
        · rw [show withK l ch.name j = j by simp [withK, hjl, he]] at hact
          have hef : (l[j].1 == ch.name) = false := by simpa using he
          replace hact := Lib.hid hact
          clear he hbf
          cases hgn : ch.gone <;> rw [hgn] at y2
          · go_wp2_with fail
            go_quiet (fail)
            go_wp2_with (at_builtin; with_reducible refine wpList_append (o := ⟨some 40, _, _, _, _, _⟩) _ rfl _ _ 87 rfl w1.heap.size 115 i0 _ 2 32 Try.underlying87 hi hz0 hz1 hz2 rfl (by omega) A' j c' _ rfl (hoB.out.gr ((Gr.drawN _ _).trans' (Gr.alloc1 _ _))) _ 1 1 [encStr ch.name, encStr ch.b] rfl rfl (Rd.new _ [encStr ch.name, encStr ch.b] _) (by simp [Value.oneCell']) (by omega) (by unfold maxLen; omega) ((hb.trans' (Gr.drawN _ _)).trans' (Gr.alloc1 _ _)).size ?_
                         intro A5 c5 w5 ho5 hk5
                         have hb5 : Gr w1 w5 := Gr.grownBk (hb.trans' ((Gr.drawN _ _).trans' (Gr.alloc1 _ _))) hk5.grown (fun g hg => (hoB.out.blk g hg).1)
                         have hoZ := Lib.hid ho5
                         clear hk5 ho5 y0 y1 y2 x0 x1
                         have y0 : w5.cell? ⟨g0, 0, none⟩ = some (encStr ch.name) := (hrow.gr hb5).cell 0
                         have x0 := Lib.hid (hf1.gr hb5); obtain ⟨g', e', x1, x2⟩ := fown_at x0.out hjl; obtain rfl : g = g' := (by injection e' with e'; injection e'); clear x2 e' x0)
            go_quiet (fail)
            go_wp2_with (at_builtin; with_reducible refine wpList_append (o := ⟨some 61, _, _, _, _, _⟩) _ rfl _ _ 87 rfl w1.heap.size 115 i0 _ 2 32 Try.underlying87 hi hz0 hz1 hz2 rfl (by omega) A5 (j + 1) c5 _ rfl (hoZ.out.gr (Gr.drawN _ _)) (some ⟨g, j * 2, none⟩) (n - j) _ ((l.drop j).flatMap fc) rfl (by rw [flat_len fc_len, List.length_drop, hn]) ((fown_drop (k := j) (hf1.gr hb5) rfl).gr (Gr.drawN _ _)) (fc_one _) (by omega) (by unfold maxLen; omega) (hb5.trans' (Gr.drawN _ _)).size ?_
                         intro A7 c7 w7 ho7 hk7
                         have hb7 : Gr w1 w7 := Gr.grownBk (hb5.trans' (Gr.drawN _ _)) hk7.grown (fun g hg => (hoZ.out.blk g hg).1)
                         clear hk7)
            all_goals
              go_ret
              refine fres_end ho7 ?_ (by omega) (hg1.trans' hb7) rfl (by omega)
              rw [hact.out, hgn]
              first | (simp [fc]; done) | (simp; rw [← List.flatMap_append, List.take_append_drop])
          · go_wp2_with fail
            go_quiet (fail)
            have hoZ := hoB
            have hb5 := hb
            go_wp2_with fail
            go_quiet (fail)
            go_wp2_with (at_builtin; with_reducible refine wpList_append (o := ⟨some 61, _, _, _, _, _⟩) _ rfl _ _ 87 rfl w1.heap.size 115 i0 _ 2 32 Try.underlying87 hi hz0 hz1 hz2 rfl (by omega) A' j c' _ rfl (hoZ.out.gr (Gr.drawN _ _)) (some ⟨g, j * 2, none⟩) (n - j) _ ((l.drop j).flatMap fc) rfl (by rw [flat_len fc_len, List.length_drop, hn]) ((fown_drop (k := j) (hf1.gr hb5) rfl).gr (Gr.drawN _ _)) (fc_one _) (by omega) (by unfold maxLen; omega) (hb5.trans' (Gr.drawN _ _)).size ?_
                         intro A7 c7 w7 ho7 hk7
                         have hb7 : Gr w1 w7 := Gr.grownBk (hb5.trans' (Gr.drawN _ _)) hk7.grown (fun g hg => (hoZ.out.blk g hg).1)
                         clear hk7)
            all_goals
              go_ret
              refine fres_end ho7 ?_ (by omega) (hg1.trans' hb7) rfl (by omega)
              rw [hact.out, hgn]
              first | (simp [fc]; done) | (simp; rw [← List.flatMap_append, List.take_append_drop])
    · obtain rfl : j = n := by omega
      have hact := act_split (c := ch) hR.out (Nat.le_of_eq hn.symm) (hn ▸ hlo.out) (fun h => absurd h (by omega))
      rw [show withK l ch.name j = j from if_neg (fun h => absurd h.1 (by omega))] at hact
      replace hact := Lib.hid hact
      have hoB := Lib.hid ho
      clear ho
      cases hgn : ch.gone <;> rw [hgn] at y2
      · go_wp2_with fail
        go_quiet (fail)
        go_wp2_with (at_builtin; with_reducible refine wpList_append (o := ⟨some 40, _, _, _, _, _⟩) _ rfl _ _ 87 rfl w1.heap.size 115 i0 _ 2 32 Try.underlying87 hi hz0 hz1 hz2 rfl (by omega) A' j c' _ rfl (hoB.out.gr ((Gr.drawN _ _).trans' (Gr.alloc1 _ _))) _ 1 1 [encStr ch.name, encStr ch.b] rfl rfl (Rd.new _ [encStr ch.name, encStr ch.b] _) (by simp [Value.oneCell']) (by omega) (by unfold maxLen; omega) ((hb.trans' (Gr.drawN _ _)).trans' (Gr.alloc1 _ _)).size ?_
                     intro A5 c5 w5 ho5 hk5
                     have hb5 : Gr w1 w5 := Gr.grownBk (hb.trans' ((Gr.drawN _ _).trans' (Gr.alloc1 _ _))) hk5.grown (fun g hg => (hoB.out.blk g hg).1)
                     have hoZ := Lib.hid ho5
                     clear hk5 ho5 y0 y1 y2
                     have y0 : w5.cell? ⟨g0, 0, none⟩ = some (encStr ch.name) := (hrow.gr hb5).cell 0)
        go_quiet (fail)
        go_wp2_with (at_builtin; with_reducible refine wpList_append (o := ⟨some 61, _, _, _, _, _⟩) _ rfl _ _ 87 rfl w1.heap.size 115 i0 _ 2 32 Try.underlying87 hi hz0 hz1 hz2 rfl (by omega) A5 (j + 1) c5 _ rfl (hoZ.out.gr (Gr.drawN _ _)) _ 0 _ (([] : Files).flatMap fc) rfl rfl (Rd.nil _ _) (fc_one _) (by omega) (by unfold maxLen; omega) (hb5.trans' (Gr.drawN _ _)).size ?_
                     intro A7 c7 w7 ho7 hk7
                     have hb7 : Gr w1 w7 := Gr.grownBk (hb5.trans' (Gr.drawN _ _)) hk7.grown (fun g hg => (hoZ.out.blk g hg).1)
                     clear hk7)
        all_goals
          go_ret
          refine fres_end ho7 ?_ (by omega) (hg1.trans' hb7) rfl (by omega)
          rw [hact.out, hgn]
          simp [fc, List.drop_of_length_le (show l.length ≤ j by omega)]
      · go_wp2_with fail
        go_quiet (fail)
        have hoZ := hoB
        have hb5 := hb
        go_wp2_with fail
        go_quiet (fail)
        go_wp2_with (at_builtin; with_reducible refine wpList_append (o := ⟨some 61, _, _, _, _, _⟩) _ rfl _ _ 87 rfl w1.heap.size 115 i0 _ 2 32 Try.underlying87 hi hz0 hz1 hz2 rfl (by omega) A' j c' _ rfl (hoZ.out.gr (Gr.drawN _ _)) _ 0 _ (([] : Files).flatMap fc) rfl rfl (Rd.nil _ _) (fc_one _) (by omega) (by unfold maxLen; omega) (hb5.trans' (Gr.drawN _ _)).size ?_
                     intro A7 c7 w7 ho7 hk7
                     have hb7 : Gr w1 w7 := Gr.grownBk (hb5.trans' (Gr.drawN _ _)) hk7.grown (fun g hg => (hoZ.out.blk g hg).1)
                     clear hk7)
        all_goals
          go_ret
          refine fres_end ho7 ?_ (by omega) (hg1.trans' hb7) rfl (by omega)
          rw [hact.out, hgn]
          simp [fc, List.drop_of_length_le (show l.length ≤ j by omega)]
end
end Go.Proofs.Ytcfbkhgdlgnmgaa
set_option linter.unusedVariables false
set_option linter.unusedSimpArgs false
namespace Go.Proofs.Ytcfbkhgdlgnmgaa
open Go.RowKit Go.Maps Go.Sort
attribute [local go_sem] Vc.known_tmp Vc.known_const Vc.known_func Vc.known_global Vc.lk Vc.okUpon Vc.Fact.holds
theorem info_str : (Try.prog.info? 9).map (fun i => (i.zero, i.size, i.bytes)) = some (some (.string ByteArray.empty), 1, 16) := by kernel_rfl
section
variable {X : Nat → Prop} {w w' : World} {p c1 c2 : Nat} {A1 A2 : Option Addr} {s : V}
def FV (X : Nat → Prop) (B : Nat) (l : Files) (v : Value) (w : World) : Prop := ∃ A n c, v = .slice A n c ∧ FOwn w 0 A n c l ∧ ∀ g, blkOf A = some g → X g ∨ B ≤ g
theorem FV.gr {B : Nat} {l : Files} {v : Value} (hg : Gr w w') (h : FV X B l v w) : FV X B l v w' := by
  obtain ⟨A, n, c, e, h1, h2⟩ := h
  exact ⟨A, n, c, e, h1.gr hg, h2⟩
set_option maxHeartbeats 2000000 in
theorem now_any (h : RMem w X p A1 c1 A2 c2 s) (hok : s.Ok) (hnw : Nw s) (hs : Sm s) :
    Calls Try.prog 76 #[.pointer (some ⟨p, 0, none⟩)] w fun e w' => ∃ v, e = .returned v ∧ FV X w.heap.size s.now v w' ∧ Gr w w' := by
  have hm1 := hok.keptL
  have hm2 := hs.ops
  unfold Nw at hnw
  rw [hnw]
  have hkR := hok.kept
  clear hnw hok hs
  obtain ⟨m, hm⟩ : ∃ m, s.since.length = m := ⟨_, rfl⟩
  have h0 := h.cells.1
  go_enter Try.func76, Try.ntmps76
  go_wp2_with fail
  go_loopw [3, 4] (fun f i wr => ∃ j : Nat, j ≤ m ∧ i = .int .i64 j ∧ Hid (FV X w.heap.size (actAll s.kept (s.since.take j)) f wr) ∧ Gr w wr) (fun _ i _ => m - (intOf i).toNat)
  case atStart => exact ⟨0, by omega, rfl, Lib.hid ⟨_, _, _, rfl, h.kept, fun g hg => .inl (h.x1 g hg)⟩, Gr.rfl' _⟩
  case round =>
    obtain ⟨j, hj, rfl, hf, hb⟩ := hrel
    have hr := h.gr hb
    obtain ⟨y0, y1, _⟩ := hr.cells
    rw [hm] at y1
    by_cases hlt : j < m
    · have hjl : j < s.since.length := by omega
      obtain ⟨g, rfl, x0, x1, x2⟩ := oown_at hr.since hjl
      have hat := actAll_take s.kept s.since hjl
      have hlen := actAll_length (s.since.take j) s.kept
      rw [List.length_take] at hlen
      have hri := actAll_rising (s.since.take j) hkR
      generalize s.since[j] = ch at *
      obtain ⟨A', n', c', rfl, ho, hx⟩ := hf.out
      have hnl := fown_len ho
      have HW := Lib.hid (with_any ho hri ch (by omega))
      unfold opV at HW
      replace hat := Lib.hid hat
      clear h0 hri hr hlen hnl hf
      go_wp2_with (go_at_call 60; (with_reducible refine HW.out.mono ?_); rintro e w2 ⟨A3, c3, rfl, ho3, hg3⟩)
      go_roundw
      case rel =>
        refine ⟨j + 1, by omega, by go_num, Lib.hid ⟨A3, _, c3, rfl, ?_, fun g hg => .inr (Nat.le_trans hb.size (ho3.blk g hg).1)⟩, hb.trans' hg3⟩
        rw [hat.out]
        exact ho3.more (fun _ _ => Nat.zero_le _)
      case measure => simp [intOf]; omega
    · obtain rfl : j = m := by omega
      rw [List.take_of_length_le (by omega)] at hf
      have hf := Lib.hid hf
      clear h0
      go_wp2
      go_ret
      exact ⟨_, rfl, hf.out.out, hb⟩
set_option maxHeartbeats 1000000 in
theorem rused2_any (h : RAt w X p s) (hs : Sm s) :
    Calls Try.prog 53 #[.pointer (some ⟨p, 0, none⟩)] w fun e w' => e = .returned (.int .i64 (s.now.used : Nat)) ∧ Gr w w' := by
  obtain ⟨hok, hnw, A1, c1, A2, c2, h⟩ := h
  have HN := Lib.hid (now_any h hok hnw hs)
  have husd := used_small hok hs.ops
  have hnl := hok.nowL
  have hso := hs.ops
  go_enter Try.func53, Try.ntmps53
  go_wp2_with (first
    | (go_at_call 76; (with_reducible refine HN.out.mono ?_); rintro e w2 ⟨_, rfl, ⟨A3, n3, c3, rfl, ho3, hx3⟩, hg3⟩
       have HU := Lib.hid (rused_any ho3 (by have := fown_len ho3; omega) (by unfold mostRoom at husd; omega)))
    | (go_at_call 75; (with_reducible refine HU.out.mono ?_); rintro e w4 ⟨rfl, rfl⟩))
  go_ret
  exact ⟨rfl, hg3⟩
set_option maxHeartbeats 2000000 in
theorem rnames_any (h : RAt w X p s) (hs : Sm s) :
    Calls Try.prog 58 #[.pointer (some ⟨p, 0, none⟩)] w fun e w' => ∃ A' n' c', e = .returned (.slice A' n' c') ∧ n' = s.now.length ∧ Own w' w.heap.size 9 1 A' n' c' ((s.now.map (·.1)).map encStr) ∧ Gr w w' := by
  obtain ⟨hok, hnw, A1, c1, A2, c2, h⟩ := h
  have HN := Lib.hid (now_any h hok hnw hs)
  have hnl := hok.nowL
  have hso := hs.ops
  obtain ⟨i0, hi, hz0, hz1, hz2⟩ := info_parts info_str
  clear h hok hnw hs
  go_enter Try.func58, Try.ntmps58
  go_wp2_with (go_at_call 76; (with_reducible refine HN.out.mono ?_); rintro e w1 ⟨_, rfl, ⟨A3, n3, c3, rfl, ho3, hx3⟩, hg3⟩)
  have hn3 := fown_len ho3
  go_loopw [3, 5] (fun o i wr => ∃ j : Nat, j ≤ n3 ∧ i = .int .i64 j ∧ ∃ A' c', o = .slice A' j c' ∧ Own wr w1.heap.size 9 1 A' j c' (((s.now.take j).map (·.1)).map encStr) ∧ Gr w1 wr) (fun _ i _ => n3 - (intOf i).toNat)
  case atStart => exact ⟨0, by omega, rfl, none, 0, rfl, by simpa using Own.nil _ _ _ _, Gr.rfl' _⟩
  case round =>
    obtain ⟨j, hj, rfl, A', c', rfl, ho, hb⟩ := hrel
    by_cases hlt : j < n3
    · have hjl : j < s.now.length := by omega
      obtain ⟨g, rfl, x0, x1⟩ := fown_at (ho3.gr hb) hjl
      have hst := Lib.hid (show ((s.now.take (j + 1)).map (·.1)).map encStr = ((s.now.take j).map (·.1)).map encStr ++ [encStr s.now[j].1] by
        rw [List.take_succ_eq_append_getElem hjl]; simp only [List.map_append, List.map_cons, List.map_nil])
      generalize s.now[j].1 = x at *
      have hoB := Lib.hid ho
      clear ho
      go_wp2_with (at_builtin; with_reducible refine wpList_append (o := ⟨some 21, _, _, _, _, _⟩) _ rfl _ _ 43 rfl w1.heap.size 9 i0 _ 1 16 Try.underlying43 hi hz0 hz1 hz2 rfl (by omega) A' j c' _ rfl (hoB.out.gr (Gr.alloc1 _ _)) _ 1 1 [encStr x] rfl rfl (Rd.one_new _ _ _) (by simp [Value.oneCell']) (by omega) (by unfold maxLen; omega) (Nat.le_trans hb.size (Gr.alloc1 _ _).size) ?_
                   intro A6 c6 w6 ho6 hk6
                   have hG6 : Gr w1 w6 := Gr.grownBk (hb.trans' (Gr.alloc1 _ _)) hk6.grown (fun g hg => (hoB.out.blk g hg).1)
                   clear hk6)
      go_roundw
      case rel =>
        refine ⟨j + 1, by omega, by go_num, A6, c6, rfl, ?_, hG6⟩
        rw [hst.out]
        exact ho6
      case measure => simp [intOf]; omega
    · obtain rfl : j = n3 := by omega
      rw [List.take_of_length_le (by omega)] at ho
      go_wp2
      go_ret
      exact ⟨A', j, c', rfl, hn3.symm, ho.more (fun g hg => Nat.le_trans hg3.size (ho.blk g hg).1), hg3.trans' hb⟩
set_option maxHeartbeats 2000000 in
theorem rread_any (h : RAt w X p s) (hs : Sm s) (n : Str) :
    Calls Try.prog 54 #[.pointer (some ⟨p, 0, none⟩), encStr n] w fun e w' =>
      e = .returned (.tuple #[encStr (s.read n).1, .bool (s.read n).2.1, .int .i64 (s.read n).2.2]) ∧ Gr w w' := by
  obtain ⟨hok, hnw, A1, c1, A2, c2, h⟩ := h
  have hnl := hok.nowL
  have hso := hs.ops
  have c4 := h.cells.2.2.2.2.1
  cases hd : s.dead with
  | true =>
    have e1 : s.read n = ([], false, 15) := by simp [V.read, hd]
    rw [e1]
    rw [hd] at c4
    go_enter Try.func54, Try.ntmps54
    go_wp2
    go_ret3
    exact ⟨rfl, Gr.rfl' _⟩
  | false =>
    have e1 : s.read n = ((s.now.get n).getD [], (s.now.get n).isSome, 0) := by simp [V.read, hd]
    rw [e1]
    rw [hd] at c4
    have HN := Lib.hid (now_any h hok hnw hs)
    clear h
    go_enter Try.func54, Try.ntmps54
    go_wp2_with (first
      | (go_at_call 76; (with_reducible refine HN.out.mono ?_); rintro e w2 ⟨_, rfl, ⟨A3, n3, c3, rfl, ho3, hx3⟩, hg3⟩
         have HU := Lib.hid (find_any ho3 n (by have := fown_len ho3; omega)))
      | (go_at_call 77; (with_reducible refine HU.out.mono ?_); rintro e w4 ⟨rfl, rfl⟩))
    go_ret3
    exact ⟨rfl, hg3⟩
end
end Go.Proofs.Ytcfbkhgdlgnmgaa
set_option linter.unusedVariables false
set_option linter.unusedSimpArgs false
namespace Go.Proofs.Ytcfbkhgdlgnmgaa
open Go.RowKit Go.Maps Go.Sort
attribute [local go_sem] Vc.known_tmp Vc.known_const Vc.known_func Vc.known_global Vc.lk Vc.okUpon Vc.Fact.holds
section
variable {X : Nat → Prop} {w w' : World} {p c1 c2 : Nat} {A1 A2 : Option Addr} {s : V}
theorem RMem.push (h : RMem w X p A1 c1 A2 c2 s) {A' : Option Addr} {xs : List Value} (hk : AppK w w' A2 A' xs) {m c' : Nat} {L : List Ch} (l' : Files) (ho : OOwn w' 0 A' m c' L) :
    w'.cell? ⟨p, 1, none⟩ = some (.slice A2 s.since.length c2) ∧ w'.frozen? ⟨p, 1, none⟩ = false ∧
    RMem (w'.setCell ⟨p, 1, none⟩ (.slice A' m c')) (fun i => X i ∨ blkOf A' = some i) p A1 c1 A' c' { s with now := l', since := L } ∧
    Mv w X (w'.setCell ⟨p, 1, none⟩ (.slice A' m c')) (fun i => X i ∨ blkOf A' = some i) := by
  have hg := hk.grown
  have hpr : Row w' p 90 (refCells A1 c1 A2 c2 s) := (hg.block _ h.row.lt (fun e => h.ne2 e.symm rfl)).trans h.row
  have hkp : FOwn w' 0 A1 s.kept.length c1 s.kept := h.kept.keep hg (fun g hg1 e => h.ne12 hg1 e rfl)
  have hg2 := only_set w' p 1 (.slice A' m c')
  have hsz : w.heap.size ≤ w'.heap.size := hg.size
  obtain rfl := oown_len ho
  refine ⟨hpr.cell 1, hpr.frozen 1, ⟨hpr.set 1 _, hkp.keep hg2 (fun g hg1 e => by injection e with e; exact h.ne1 hg1 e), ho.keep hg2 ?_, .inl h.xp, fun g hg => .inl (h.x1 g hg), fun g hg => .inr hg, fun i hi => ?_⟩, ?_, fun _ h => .inl h, fun i hi => ?_⟩
  · intro g hga e
    injection e with e
    obtain ⟨ys, hr⟩ := own_row ho hga
    exact hpr.ne hr (by decide) e
  · refine Nat.lt_of_lt_of_le ?_ hg2.size
    rcases hi with hi | hi
    · exact Nat.lt_of_lt_of_le (h.lt i hi) hsz
    · exact (ho.blk i hi).2
  · exact (Tr.of_grown (X := X) hg (fun g e => h.x2 g e)).trans (Tr.of_grown (X := X) hg2 (fun g e => by injection e with e; exact e ▸ h.xp)) (fun _ _ h => h)
  · rcases hi with hi | hi
    · exact .inl hi
    · rcases hk.2.1 with ⟨rfl, _⟩ | ⟨rfl, _⟩
      · exact .inl (h.x2 i hi)
      · injection hi with hi
        exact .inr (Nat.le_of_eq hi)
theorem Mv.op {X X' : Nat → Prop} {w w1 w2 : World} {p : Nat} (h : Mv w X w1 X') (hg : w1.grownBy w2 (some p)) (hp : X' p) : Mv w X w2 X' :=
  h.trans ⟨Tr.of_grown hg (fun g e => by injection e with e; exact e ▸ hp), fun _ h => h, fun _ h => .inl h⟩
theorem oc_snoc (l : List Ch) (ch : Ch) : (l ++ [ch]).flatMap oc = l.flatMap oc ++ [encStr ch.name, encStr ch.b, .bool ch.gone] := by
  rw [List.flatMap_append]; rfl
theorem write_used {s : V} (h : s.now.Rising) (n b : Str) : Files.used ((⟨n, b, false⟩ : Ch).act s.now) = s.now.used - ((s.now.get n).getD []).length + b.length := by
  have h1 := used_put h n b
  have h2 := get_le_used s.now n
  have h3 : (⟨n, b, false⟩ : Ch).act s.now = s.now.put n b := by simp [Ch.act]
  rw [h3]
  omega
set_option maxRecDepth 20000 in
set_option maxHeartbeats 4000000 in
theorem rwrite_any (h : RAt w X p s) (hs : Sm s) (n b : Str) (hbl : b.length ≤ 1000000) :
    Calls Try.prog 55 #[.pointer (some ⟨p, 0, none⟩), encStr n, encStr b] w fun e w' => e = .returned (.int .i64 (s.write n b).2) ∧ ∃ X', RAt w' X' p (s.write n b).1 ∧ Mv w X w' X' := by
  have h' := h
  obtain ⟨hok, hnw, A1, c1, A2, c2, h⟩ := h
  obtain ⟨y0, y1, y2, y3, y4, y5⟩ := h.cells
  have hsz : (⟨n.toArray⟩ : ByteArray).size = n.length := by simp [ByteArray.size]
  cases hd : s.dead with
  | true =>
    have e1 : s.write n b = (s, 15) := by simp [V.write, hd]
    rw [e1]
    rw [hd] at y4
    go_enter Try.func55, Try.ntmps55
    go_wp2
    go_ret
    exact ⟨rfl, X, h', Mv.rfl' _ _⟩
  | false =>
    rw [hd] at y4
    by_cases h0 : n = []
    · have e1 : s.write n b = (s, 12) := by simp [V.write, hd, h0]
      rw [e1]
      subst h0
      go_enter Try.func55, Try.ntmps55
      go_wp2
      go_ret
      exact ⟨rfl, X, h', Mv.rfl' _ _⟩
    · have hne : List.isEmpty n = false := by
        cases n with
        | nil => exact absurd rfl h0
        | cons x r => rfl
      by_cases h20 : 20 < n.length
      · have e1 : s.write n b = (s, 12) := by simp [V.write, hd, h20]
        rw [e1]
        have h20' : (20 : Int) < (n.length : Int) := by omega
        go_enter Try.func55, Try.ntmps55
        go_wp2
        go_ret
        exact ⟨rfl, X, h', Mv.rfl' _ _⟩
      · have h20' : ¬ (20 : Int) < (n.length : Int) := by omega
        have husd := used_small hok hs.ops
        have hroom := hok.room
        have hnl := hok.nowL
        have hkl := hok.keptL
        have hso := hs.ops
        unfold mostRoom at husd hroom
        have hwu := write_used hok.now n b
        have hgl := get_le_used s.now n
        have hal := act_length s.now ⟨n, b, false⟩
        obtain ⟨U, hU⟩ : ∃ U, Files.used ((⟨n, b, false⟩ : Ch).act s.now) = U := ⟨_, rfl⟩
        have hcond : (s.room < s.now.used - ((s.now.get n).getD []).length + b.length) = (s.room < U) := by rw [← hwu, hU]
        have hUb : U ≤ 4611686018427387904 := by omega
        have HN := Lib.hid (fun W hW => now_any (w := W) (h.gr hW) hok hnw hs)
        have HW := Lib.hid (fun (W : World) (B : Nat) (A : Option Addr) (n0 c : Nat) (hf : FOwn W B A n0 c s.now) => with_any hf hok.now ⟨n, b, false⟩ (by have := fown_len hf; omega))
        have HU := Lib.hid (fun (W : World) (B : Nat) (A : Option Addr) (n0 c : Nat) (hf : FOwn W B A n0 c ((⟨n, b, false⟩ : Ch).act s.now)) => hU ▸ rused_any hf (by have := fown_len hf; omega) (by omega))
        unfold opV at HW
        have z2 := Lib.hid y2
        clear hwu hgl hal y0 y1 y2 y3 y5
        go_enter Try.func55, Try.ntmps55
        go_wp2_with fail
        refine Vc.wp_region_facts ⟨Gr, fun _ => Gr, fun _ W => Gr w W, []⟩ (by kernel_rfl) (by kernel_rfl) (fun _ _ _ h h' => h'.trans' h) (Gr.draw _) ?_
        repeat
          refine Vc.Walk.pure (v := ?_) (fun _ => Gr.rfl' _) rfl (by first | exact Vc.GuardYes.no rfl | exact Vc.GuardYes.yes rfl rfl) rfl rfl ?_ ?_
          rotate_left
          · intro _ W hI
            (clear hI)
            go_simp
            exact rfl
        refine Vc.Walk.call (.fits (Vc.All (FV X w.heap.size s.now))) (st_gr (fun _ _ h => h) (fun _ _ _ h => h) FV.gr) (.no rfl) rfl rfl ?_ ?_
        · intro k W hI
          have hg := hI.g
          clear hI
          go_simp
          refine (HN.out W hg).mono ?_
          rintro e W' ⟨v, rfl, ⟨A, n0, c, rfl, ho, hx⟩, hg'⟩
          exact ⟨_, rfl, ⟨A, n0, c, rfl, ho, fun g hg2 => (hx g hg2).imp id (fun h => Nat.le_trans hg.size h)⟩, hg'⟩
        repeat
          refine Vc.Walk.pure (v := ?_) (fun _ => Gr.rfl' _) rfl (by first | exact Vc.GuardYes.no rfl | exact Vc.GuardYes.yes rfl rfl) rfl rfl ?_ ?_
          rotate_left
          · intro _ W hI
            (clear hI)
            go_simp
            exact rfl
        refine Vc.Walk.any (.fits (Vc.All (FV X w.heap.size ((⟨n, b, false⟩ : Ch).act s.now)))) (st_gr (fun _ _ h => h) (fun _ _ _ h => h) FV.gr) (.no rfl) ?_ ?_
        · intro ρ k W hI hf
          have hg := hI.g
          obtain ⟨hρ0, ⟨A, n0, c, hρ1, ho, hx⟩, hρ2, _⟩ := hf
          have e0 : ρ (.func 60) = .func (.func 60) #[] #[] := hρ0
          have e1 : ρ (.tmp 22) = .slice A n0 c := hρ1
          have e2 : ρ (.tmp 25) = .agg #[encStr n, encStr b, .bool false] := hρ2
          clear hI hρ0 hρ1 hρ2
          go_simp
          refine (HW.out W 0 A n0 c ho).mono ?_
          rintro e W' ⟨A', c', rfl, ho', hg'⟩
          exact ⟨_, rfl, ⟨A', _, c', rfl, ho'.more (fun _ _ => Nat.zero_le _), fun g hg2 => .inr (Nat.le_trans hg.size (ho'.blk g hg2).1)⟩, hg'⟩
        refine Vc.Walk.any (.is (.int .i64 U)) trivial (.no rfl) ?_ ?_
        · intro ρ k W hI hf
          obtain ⟨hρ0, ⟨A, n0, c, hρ1, ho, hx⟩, _⟩ := hf
          have e0 : ρ (.func 75) = .func (.func 75) #[] #[] := hρ0
          have e1 : ρ (.tmp 26) = .slice A n0 c := hρ1
          clear hI hρ0 hρ1
          go_simp
          refine (HU.out W 0 A n0 c ho).mono ?_
          rintro e W' ⟨rfl, rfl⟩
          exact ⟨_, rfl, rfl, Gr.rfl' _⟩
        repeat
          refine Vc.Walk.pure (v := ?_) (fun _ => Gr.rfl' _) rfl (by first | exact Vc.GuardYes.no rfl | exact Vc.GuardYes.yes rfl rfl) rfl rfl ?_ ?_
          rotate_left
          · intro _ W hI
            (have q := hI.g; clear hI; have q2 := q.cell z2.out; clear q)
            go_simp
            exact rfl
        intro W hW
        have hW : Gr w W := hW
        simp only [List.reverse_cons, List.reverse_nil, List.nil_append, List.cons_append, Vc.finish, Act.put, List.setIfInBounds_toArray, List.set_cons_zero, List.set_cons_succ]
        rintro _ _ _ _
        clear HN HW HU z2
        by_cases hf : s.room < U
        · have e1 : s.write n b = (s, 14) := by
            simp only [V.write, hd, Bool.false_eq_true, if_false, h0, h20, or_self, hcond, if_pos hf]
          replace e1 := Lib.hid e1
          have hf' : (s.room : Int) < (U : Int) := by omega
          go_wp2_with fail
          go_ret
          rw [e1.out]
          exact ⟨rfl, X, h'.gr hW, Mv.of_gr hW X⟩
        · have e1 : s.write n b = (s.done ⟨n, b, false⟩, deadNo (s.done ⟨n, b, false⟩).dead) := by
            simp only [V.write, hd, Bool.false_eq_true, if_false, h0, h20, or_self, hcond, if_neg hf]
          have hf' : ¬ (s.room : Int) < (U : Int) := by omega
          have hok2 := ok_done hok (c := ⟨n, b, false⟩) (by simp only; omega) (by unfold mostRoom; simp only; rw [← hU, write_used hok.now] at hf; omega)
          have hnw2 := nw_done hnw ⟨n, b, false⟩
          obtain ⟨i0, hi, hz0, hz1, hz2⟩ := info_parts info_op
          obtain ⟨q0, q1, _⟩ := (h.gr hW).cells
          obtain ⟨m, hm⟩ : ∃ m, s.since.length = m := ⟨_, rfl⟩
          rw [hm] at q1
          have hoB := Lib.hid ((h.gr hW).since)
          rw [hm] at hoB
          replace hm := Lib.hid hm
          have hml : m ≤ 1000000 := by have := hm.out; omega
          clear hcond hU
          generalize hs5 : s.done ⟨n, b, false⟩ = s5 at *
          replace hs5 := Lib.hid hs5
          replace e1 := Lib.hid e1
          go_wp2_with (first
            | (at_builtin; with_reducible refine wpList_append (o := ⟨some 42, _, _, _, _, _⟩) _ rfl _ _ 88 rfl 0 96 i0 _ 3 40 Try.underlying88 hi hz0 hz1 hz2 rfl (by omega) A2 m c2 _ rfl (hoB.out.gr (Gr.alloc1 _ _)) _ 1 1 [encStr n, encStr b, .bool false] rfl rfl (Rd.new _ [encStr n, encStr b, .bool false] _) (by simp [Value.oneCell']) (by omega) (by unfold maxLen; omega) (Nat.zero_le _) ?_
               intro A6 c6 w6 ho6 hk6
               obtain ⟨k0, k1, hm6, hM6⟩ := ((h.gr hW).gr (Gr.alloc1 W (.cells #[encStr n, encStr b, .bool false] 96))).push hk6 ((⟨n, b, false⟩ : Ch).act s.now) (L := s.since ++ [⟨n, b, false⟩]) (m := m + 1) (c' := c6) (by unfold OOwn; rw [oc_snoc]; exact ho6)
               have HO := Lib.hid (op_any hm6 ⟨hs.ops, hs.stop⟩)
               rw [show V.step ({ s with now := ((⟨n, b, false⟩ : Ch).act s.now), since := s.since ++ [⟨n, b, false⟩] } : V) = s5 from hs5.out] at HO
               clear ho6 hk6 hm6)
            | (go_at_call 78; (with_reducible refine HO.out.mono ?_); rintro e w7 ⟨rfl, hm7, hg7⟩))
          go_ret
          rw [e1.out]
          exact ⟨rfl, _, ⟨hok2, hnw2, _, _, _, _, hm7⟩, ((Mv.of_gr (hW.trans' (Gr.alloc1 _ _)) X).trans hM6).op hg7 (.inl h.xp)⟩
end
end Go.Proofs.Ytcfbkhgdlgnmgaa
set_option linter.unusedVariables false
set_option linter.unusedSimpArgs false
namespace Go.Proofs.Ytcfbkhgdlgnmgaa
open Go.RowKit Go.Maps Go.Sort
attribute [local go_sem] Vc.known_tmp Vc.known_const Vc.known_func Vc.known_global Vc.lk Vc.okUpon Vc.Fact.holds
section
variable {X : Nat → Prop} {w w' : World} {p c1 c2 : Nat} {A1 A2 : Option Addr} {s : V}
set_option maxRecDepth 20000 in
set_option maxHeartbeats 4000000 in
theorem rremove_any (h : RAt w X p s) (hs : Sm s) (n : Str) (hn20 : (s.now.get n).isSome → n.length ≤ 20) :
    Calls Try.prog 62 #[.pointer (some ⟨p, 0, none⟩), encStr n] w fun e w' => e = .returned (.int .i64 (s.remove n).2) ∧ ∃ X', RAt w' X' p (s.remove n).1 ∧ Mv w X w' X' := by
  have h' := h
  obtain ⟨hok, hnw, A1, c1, A2, c2, h⟩ := h
  obtain ⟨y0, y1, y2, y3, y4, y5⟩ := h.cells
  cases hd : s.dead with
  | true =>
    have e1 : s.remove n = (s, 15) := by simp [V.remove, hd]
    rw [e1]
    rw [hd] at y4
    go_enter Try.func62, Try.ntmps62
    go_wp2
    go_ret
    exact ⟨rfl, X, h', Mv.rfl' _ _⟩
  | false =>
    rw [hd] at y4
    have hnl := hok.nowL
    have hkl := hok.keptL
    have hso := hs.ops
    have HN := Lib.hid (now_any h hok hnw hs)
    have HF := Lib.hid (fun (W : World) (B : Nat) (A : Option Addr) (n0 c : Nat) (hf : FOwn W B A n0 c s.now) => find_any hf n (by have := fown_len hf; omega))
    cases hg : (s.now.get n).isSome with
    | false =>
      have e1 := Lib.hid (show s.remove n = (s, 2) by simp only [V.remove, hd, hg, Bool.false_eq_true, if_false])
      rw [hg] at HF
      clear y0 y1 y2 y3 y5 hg hn20
      go_enter Try.func62, Try.ntmps62
      go_wp2_with (first
        | (go_at_call 76; (with_reducible refine HN.out.mono ?_); rintro e w2 ⟨_, rfl, ⟨A3, n3, c3, rfl, ho3, hx3⟩, hg3⟩
           have HU := Lib.hid (HF.out _ _ _ _ _ ho3))
        | (go_at_call 77; (with_reducible refine HU.out.mono ?_); rintro e w4 ⟨rfl, rfl⟩))
      go_ret
      rw [e1.out]
      exact ⟨rfl, X, h'.gr hg3, Mv.of_gr hg3 X⟩
    | true =>
      have hn20 := hn20 hg
      have e1 : s.remove n = (s.done ⟨n, [], true⟩, deadNo (s.done ⟨n, [], true⟩).dead) := by simp only [V.remove, hd, hg, Bool.false_eq_true, if_false, if_true]
      rw [hg] at HF
      have hok2 := ok_done hok (c := ⟨n, [], true⟩) hn20 (Nat.zero_le _)
      have hnw2 := nw_done hnw ⟨n, [], true⟩
      obtain ⟨i0, hi, hz0, hz1, hz2⟩ := info_parts info_op
      obtain ⟨m, hm⟩ : ∃ m, s.since.length = m := ⟨_, rfl⟩
      have hoB := Lib.hid h.since
      rw [hm] at hoB
      have hml : m ≤ 1000000 := by omega
      have HQ := Lib.hid (fun W (hW : Gr w W) => And.intro (h.gr hW).cells.1 (hm ▸ (h.gr hW).cells.2.1))
      generalize hs5 : s.done ⟨n, [], true⟩ = s5 at *
      replace hs5 := Lib.hid hs5
      replace e1 := Lib.hid e1
      replace hm := Lib.hid hm
      clear y0 y1 y2 y3 y5 hg
      go_enter Try.func62, Try.ntmps62
      go_wp2_with (first
        | (go_at_call 76; (with_reducible refine HN.out.mono ?_); rintro e W ⟨_, rfl, ⟨A3, n3, c3, rfl, ho3, hx3⟩, hW⟩
           obtain ⟨q0, q1⟩ := HQ.out W hW
           have HU := Lib.hid (HF.out _ _ _ _ _ ho3))
        | (go_at_call 77; (with_reducible refine HU.out.mono ?_); rintro e w4 ⟨rfl, rfl⟩)
        | (at_builtin; with_reducible refine wpList_append (o := ⟨some 28, _, _, _, _, _⟩) _ rfl _ _ 88 rfl 0 96 i0 _ 3 40 Try.underlying88 hi hz0 hz1 hz2 rfl (by omega) A2 m c2 _ rfl (hoB.out.gr (hW.trans' (Gr.alloc1 _ _))) _ 1 1 [encStr n, .string ByteArray.empty, .bool true] rfl rfl (Rd.new _ [encStr n, .string ByteArray.empty, .bool true] _) (by simp [Value.oneCell']) (by omega) (by unfold maxLen; omega) (Nat.zero_le _) ?_
           intro A6 c6 w6 ho6 hk6
           obtain ⟨k0, k1, hm6, hM6⟩ := ((h.gr hW).gr (Gr.alloc1 W (.cells #[encStr n, .string ByteArray.empty, .bool true] 96))).push hk6 ((⟨n, [], true⟩ : Ch).act s.now) (L := s.since ++ [⟨n, [], true⟩]) (m := m + 1) (c' := c6) (by unfold OOwn; rw [oc_snoc]; exact ho6)
           have HO := Lib.hid (op_any hm6 ⟨hs.ops, hs.stop⟩)
           rw [show V.step ({ s with now := ((⟨n, [], true⟩ : Ch).act s.now), since := s.since ++ [⟨n, [], true⟩] } : V) = s5 from hs5.out] at HO
           clear ho6 hk6 hm6)
        | (go_at_call 78; (with_reducible refine HO.out.mono ?_); rintro e w7 ⟨rfl, hm7, hg7⟩))
      go_ret
      rw [e1.out]
      exact ⟨rfl, _, ⟨hok2, hnw2, _, _, _, _, hm7⟩, ((Mv.of_gr (hW.trans' (Gr.alloc1 _ _)) X).trans hM6).op hg7 (.inl h.xp)⟩
theorem RMem.lot (h : RMem w X p A1 c1 A2 c2 s) {B : Nat} {A : Option Addr} {n c : Nat} {l : Files} (ho : FOwn w 0 A n c l) (hx : ∀ g, blkOf A = some g → X g ∨ B ≤ g) (hB : B ≤ w.heap.size) :
    RMem w (fun i => X i ∨ blkOf A = some i) p A1 c1 A2 c2 s ∧ ∀ {w0 : World}, w0.heap.size ≤ B → Mv w0 X w X → Mv w0 X w (fun i => X i ∨ blkOf A = some i) := by
  refine ⟨h.more (fun _ h => .inl h) (fun i hi => ?_), fun hw0 hM => ⟨hM.tr, fun _ h => .inl h, fun i hi => ?_⟩⟩
  · rcases hi with hi | hi
    · exact h.lt i hi
    · exact (ho.blk i hi).2
  · rcases hi with hi | hi
    · exact .inl hi
    · rcases hx i hi with h1 | h1
      · exact .inl h1
      · exact .inr (Nat.le_trans hw0 h1)
set_option maxHeartbeats 2000000 in
theorem rflush_any (h : RAt w X p s) (hs : Sm s) (hss : Sm s.step) :
    Calls Try.prog 56 #[.pointer (some ⟨p, 0, none⟩)] w fun e w' => e = .returned (.int .i64 s.flush.2) ∧ ∃ X', RAt w' X' p s.flush.1 ∧ Mv w X w' X' := by
  have h' := h
  obtain ⟨hok, hnw, A1, c1, A2, c2, h⟩ := h
  obtain ⟨y0, y1, y2, y3, y4, y5⟩ := h.cells
  have hok2 := ok_flush hok
  have hnw2 := nw_flush hnw
  cases hd : s.dead with
  | true =>
    have e1 : s.flush = (s, 15) := by simp [V.flush, hd]
    rw [e1]
    rw [hd] at y4
    go_enter Try.func56, Try.ntmps56
    go_wp2
    go_ret
    exact ⟨rfl, X, h', Mv.rfl' _ _⟩
  | false =>
    rw [hd] at y4
    have HS := Lib.hid (op_any h hs)
    cases hsd : s.step.dead with
    | true =>
      have e1 : s.flush = (s.step, 15) := by simp [V.flush, hd, hsd]
      rw [e1]
      rw [hsd] at HS
      go_enter Try.func56, Try.ntmps56
      go_wp2_with (go_at_call 78; (with_reducible refine HS.out.mono ?_); rintro e w1 ⟨rfl, hm1, hg1⟩)
      go_ret
      exact ⟨rfl, X, ⟨ok_step hok, hnw, _, _, _, _, hm1⟩, (Mv.rfl' _ _).op hg1 h.xp⟩
    | false =>
      have e1 : s.flush = ({ s.step with kept := s.now, since := [] }, 0) := by simp [V.flush, hd, hsd]
      rw [e1] at hok2 hnw2 ⊢
      rw [hsd] at HS
      clear y0 y1 y2 y3 y5
      go_enter Try.func56, Try.ntmps56
      go_wp2_with (first
        | (go_at_call 78; (with_reducible refine HS.out.mono ?_); rintro e w1 ⟨rfl, hm1, hg1⟩
           have HC := Lib.hid (now_any hm1 (ok_step hok) hnw hss))
        | (go_at_call 76; (with_reducible refine HC.out.mono ?_); rintro e w2 ⟨_, rfl, ⟨A3, n3, c3, rfl, ho3, hx3⟩, hg2⟩
           obtain ⟨r0, r1, _⟩ := (hm1.gr hg2).cells
           have z0 := (hm1.gr hg2).frozen 0
           have z1 := (hm1.gr hg2).frozen 1))
      go_ret
      obtain ⟨hm2, hM2⟩ := (hm1.gr hg2).lot ho3 hx3 hg2.size
      have hm3 := hm2.set_kept ho3 (fun g hg => .inr hg)
      have hm4 := hm3.set_since (Own.nil _ _ _ _) (l := []) (fun g hg => by cases hg)
      have hM1 := hM2 hg1.size (((Mv.rfl' w X).op hg1 h.xp).trans (Mv.of_gr hg2 X))
      exact ⟨rfl, _, ⟨hok2, hnw2, _, _, _, _, hm4⟩, (hM1.own_set (.inl h.xp)).own_set (.inl h.xp)⟩
end
end Go.Proofs.Ytcfbkhgdlgnmgaa
set_option linter.unusedVariables false
set_option linter.unusedSimpArgs false
namespace Go.Proofs.Ytcfbkhgdlgnmgaa
open Go.RowKit Go.Maps Go.Sort
attribute [local go_sem] Vc.known_tmp Vc.known_const Vc.known_func Vc.known_global Vc.lk Vc.okUpon Vc.Fact.holds
section
variable {X : Nat → Prop} {w w' : World} {p c1 c2 : Nat} {A1 A2 : Option Addr} {s : V}
theorem half_toNat (n : Nat) (h : n ≤ 1048576) : wrap64 ((n : Int) / 2) = (n : Int) / 2 := by unfold wrap64; omega
theorem enc_take (b : Str) (k : Nat) : encStr (b.take k) = .string ((⟨b.toArray⟩ : ByteArray).extract 0 k) := by
  have h : (⟨b.toArray⟩ : ByteArray).extract 0 k = ⟨(b.take k).toArray⟩ := by
    apply ByteArray.ext
    rw [ByteArray.data_extract]
    simp
  rw [h]
set_option maxRecDepth 20000 in
set_option maxHeartbeats 8000000 in
theorem rcrash_any (h : RAt w X p s) (hs : Sm s) (B : Option Addr) (n cc : Nat) (ks : List Int) (hn : Hid (ks.length = n)) (hr : Rd w B (ks.map iv)) (hl : n ≤ 9223372036854775807) :
    Calls Try.prog 31 #[.pointer (some ⟨p, 0, none⟩), .slice B n cc] w fun e w' => e = .returned (.tuple #[]) ∧ ∃ X', RAt w' X' p (s.crash ks) ∧ Mv w X w' X' := by
  have h' := h
  obtain ⟨hok, hnw, A1, c1, A2, c2, h⟩ := h
  obtain ⟨y0, _⟩ := h.cells
  have hok2 := ok_crash hok ks
  have hsl : s.since.length ≤ 1000000 := by have := hok.keptL; have := hs.ops; omega
  have hkl : s.kept.length + s.since.length ≤ 1000000 := Nat.le_trans hok.keptL hs.ops
  have hnn := hn.out
  obtain ⟨m, hm⟩ : ∃ m, s.since.length = m := ⟨_, rfl⟩
  go_enter Try.func31, Try.ntmps31
  go_wp2_with fail
  clear y0
  go_loopw [4, 5] (fun f i wr => ∃ j : Nat, j ≤ m ∧ j ≤ n ∧ i = .int .i64 j ∧ Hid (FV X w.heap.size (crashF s.kept (s.since.take j) (ks.take j)) f wr) ∧ Gr w wr) (fun _ i _ => m - (intOf i).toNat)
  case atStart => exact ⟨0, by omega, by omega, rfl, Lib.hid ⟨_, _, _, rfl, by simpa [crashF_nil] using h.kept, fun g hg => .inl (h.x1 g hg)⟩, Gr.rfl' _⟩
  case round =>
    obtain ⟨j, hj, hjn, rfl, hf, hb⟩ := hrel
    have hrm := h.gr hb
    obtain ⟨y0, y1, _⟩ := hrm.cells
    rw [hm] at y1
    by_cases hlt : j < m ∧ j < n
    · obtain ⟨hlt, hltn⟩ := hlt
      have hjl : j < s.since.length := by omega
      have hjk : j < ks.length := by omega
      obtain ⟨g, rfl, x0, x1, x2⟩ := oown_at hrm.since hjl
      have hcb := hok.sinceB s.since[j] (List.getElem_mem hjl)
      obtain ⟨kb, ko, rfl, hx⟩ := (hr.gr hb).spot (by simp; omega)
      have hx : wr.cell? ⟨kb, ko + j, none⟩ = some (.int .i64 ks[j]) := hx j _ (by rw [List.getElem?_map, List.getElem?_eq_getElem hjk]; rfl)
      have hst := crashF_succ s.since ks s.kept j hjl hjk
      obtain ⟨hri, _, hlen⟩ := crashF_ok (s.since.take j) (ks.take j) s.kept hok.kept hok.keptB (fun c hc => hok.sinceB c (List.mem_of_mem_take hc))
      rw [List.length_take] at hlen
      generalize s.since[j] = ch at *
      generalize ks[j] = kk at *
      have hx2 := (Gr.alloc1 wr (.cells #[.string ⟨ch.name.toArray⟩, .string ⟨ch.b.toArray⟩, .bool ch.gone] 96)).cell hx
      obtain ⟨A', n', c', rfl, ho, hxx⟩ := hf.out
      have hnl := fown_len ho
      have i1 : (j : Int) < (n : Int) := by omega
      have i2 : (j : Int) < (m : Int) := by omega
      have hkb : kb ≠ wr.heap.size := Nat.ne_of_lt (World.block_lt_of_cell? wr _ hx)
      generalize hL : crashF s.kept (s.since.take j) (ks.take j) = L at *
      replace hL := Lib.hid hL
      clear hf hrm
      by_cases hk1 : kk = 1
      · subst hk1
        have HW := Lib.hid (fun W (hW : Gr wr W) => with_any (ho.gr hW) hri ch (by omega))
        unfold opV at HW
        replace hst := Lib.hid (hst.trans (by simp [crashStep]) : _ = ch.act L)
        clear hri hlen hnl
        go_wp2_with (go_at_call 60; (with_reducible refine (HW.out _ (Gr.alloc1 _ _)).mono ?_); rintro e w2 ⟨A3, c3, rfl, ho3, hg3⟩)
        go_roundw
        case rel =>
          refine ⟨j + 1, by omega, by omega, by go_num, Lib.hid ⟨A3, _, c3, rfl, ?_, fun g hg => .inr (Nat.le_trans (hb.trans' (Gr.alloc1 _ _)).size (ho3.blk g hg).1)⟩, (hb.trans' (Gr.alloc1 _ _)).trans' hg3⟩
          rw [hst.out]
          exact ho3.more (fun _ _ => Nat.zero_le _)
        case measure => simp [intOf]; omega
      · have hk1' : (kk == 1) = false := by simpa using hk1
        by_cases hk2 : kk = 2
        · subst hk2
          have HW := Lib.hid (fun W (hW : Gr wr W) => with_any (ho.gr hW) hri ch.half (by omega))
          unfold opV at HW
          replace hst := Lib.hid (hst.trans (by simp [crashStep]) : _ = ch.half.act L)
          obtain ⟨bn, hbn⟩ : ∃ bn, ch.b.length = bn := ⟨_, rfl⟩
          have hsz : (⟨ch.b.toArray⟩ : ByteArray).size = bn := by simp [ByteArray.size, hbn]
          have hn0 : bn ≤ 1048576 := by have := hcb.2; unfold mostRoom at this; omega
          have hq := half_toNat bn hn0
          have hq1 : (0 : Int) ≤ (bn : Int) / 2 := by omega
          have hq2 : (bn : Int) / 2 ≤ (bn : Int) := by omega
          rw [show ch.half.name = ch.name from rfl, show ch.half.gone = ch.gone from rfl, show ch.half.b = ch.b.take (bn / 2) by rw [← hbn]; rfl] at HW
          rw [enc_take] at HW
          replace hbn := Lib.hid hbn
          have hx3 := (Gr.alloc1 wr (.cells #[.string ⟨ch.name.toArray⟩, .string ((⟨ch.b.toArray⟩ : ByteArray).extract 0 (bn / 2)), .bool ch.gone] 96)).cell hx
          clear hri hlen hnl
          go_wp2_with (go_at_call 60; (with_reducible refine (HW.out _ (Gr.alloc1 _ _)).mono ?_); rintro e w2 ⟨A3, c3, rfl, ho3, hg3⟩)
          go_roundw
          case rel =>
            refine ⟨j + 1, by omega, by omega, by go_num, Lib.hid ⟨A3, _, c3, rfl, ?_, fun g hg => .inr (Nat.le_trans (hb.trans' (Gr.alloc1 _ _)).size (ho3.blk g hg).1)⟩, (hb.trans' (Gr.alloc1 _ _)).trans' hg3⟩
            rw [hst.out]
            exact ho3.more (fun _ _ => Nat.zero_le _)
          case measure => simp [intOf]; omega
        · have hk2' : (kk == 2) = false := by simpa using hk2
          replace hst := Lib.hid (hst.trans (by simp [crashStep, hk1, hk2]) : _ = L)
          clear hri hlen hnl hk1 hk2
          go_wp2_with fail
          go_roundw
          case rel =>
            refine ⟨j + 1, by omega, by omega, by go_num, Lib.hid ⟨A', _, c', rfl, ?_, hxx⟩, hb.trans' (Gr.alloc1 _ _)⟩
            rw [hst.out]
            exact ho.gr (Gr.alloc1 _ _)
          case measure => simp [intOf]; omega
    · have hfin : crashF s.kept (s.since.take j) (ks.take j) = crashF s.kept s.since ks := crashF_take _ _ _ _ (by omega)
      rw [hfin] at hf
      obtain ⟨A', n', c', rfl, ho, hxx⟩ := hf.out
      obtain ⟨hm2, hM2⟩ := hrm.lot ho hxx hb.size
      have hm3 := hm2.set_kept ho (fun g hg => .inr hg)
      have hm4 := hm3.set_since (Own.nil _ _ _ _) (l := []) (fun g hg => by cases hg)
      have hg5 := only_trans (only_set ((wr.setCell ⟨p, 0, none⟩ (.slice A' n' c')).setCell ⟨p, 1, none⟩ (.slice none 0 0)) p 3 (.int .i64 0)) (only_set _ p 4 (.bool false))
      have hm5 := hm4.own_cells (s' := s.crash ks) (by
        have hr := (hm4.row.set 3 (.int .i64 0)).set 4 (.bool false)
        simpa [refCells, V.crash] using hr) hg5 rfl rfl
      have hM5 := (((((hM2 (Nat.le_refl _) (Mv.of_gr hb X)).own_set (i := 0) (u := .slice A' n' c') (.inl h.xp)).own_set (i := 1) (u := .slice none 0 0) (.inl h.xp)).own_set (i := 3) (u := .int .i64 0) (.inl h.xp)).own_set (i := 4) (u := .bool false) (.inl h.xp))
      have f0 := hrm.frozen 0
      have f1 := hrm.frozen 1
      have f3 := hrm.frozen 3
      have f4 := hrm.frozen 4
      have hend := Lib.hid (show RAt _ _ p (s.crash ks) from ⟨hok2, nw_crash s ks, _, _, _, _, hm5⟩)
      obtain ⟨y0, y1, y2, y3, y4, y5⟩ := hrm.cells
      rw [hm] at y1
      replace hM5 := Lib.hid hM5
      clear hf hfin hm2 hM2 hm3 hm4 hg5 hm5 hok2 hxx
      by_cases hjm : j < m
      · have hjn2 : ¬ (j : Int) < (n : Int) := by omega
        go_wp2
        exact bodyPost_end (results_none rfl _ _ _) rfl ⟨rfl, _, hend.out, hM5.out⟩
      · have hjm2 : ¬ (j : Int) < (m : Int) := by omega
        go_wp2
        exact bodyPost_end (results_none rfl _ _ _) rfl ⟨rfl, _, hend.out, hM5.out⟩
end
end Go.Proofs.Ytcfbkhgdlgnmgaa
set_option linter.unusedVariables false
set_option linter.unusedSimpArgs false
namespace Go.Proofs.Ytcfbkhgdlgnmgaa
open Go.RowKit Go.Maps Go.Sort
theorem within_neg {a n : Int} (hn : 0 < n) (hn2 : n ≤ 4611686018427387904) (ha : a < 0) (h : a.tmod n < 0) : wrap64 (a.tmod n + n) = a % n := by
  have h1 := Int.emod_nonneg a (show n ≠ 0 by omega)
  have h2 := Int.emod_lt_of_pos a hn
  rw [Int.tmod_eq_emod] at h ⊢
  split at h
  · omega
  · rename_i hc
    rw [if_neg hc]
    unfold wrap64
    omega
theorem within_pos {a n : Int} (hn : 0 < n) (ha : a < 0) (h : ¬ a.tmod n < 0) : a.tmod n = a % n := by
  have h1 := Int.emod_nonneg a (show n ≠ 0 by omega)
  have h2 := Int.emod_lt_of_pos a hn
  rw [Int.tmod_eq_emod] at h ⊢
  split at h
  · rename_i hc
    rw [if_pos hc]
    omega
  · omega
theorem within1_any (a n : Int) (w : World) (h0 : -9223372036854775808 ≤ a) (h1 : a ≤ 9223372036854775807) (hn : 0 < n) (hn2 : n ≤ 4611686018427387904) :
    Calls Try.prog 15 #[.int .i64 a, .int .i64 n] w fun e w' => e = .returned (.int .i64 (a % n)) ∧ w = w' := by
  by_cases ha : 0 ≤ a
  · have hm := Int.emod_nonneg a (show n ≠ 0 by omega)
    go_enter Try.func15, Try.ntmps15
    go_wp2
    go_ret
    exact ⟨rfl, rfl⟩
  · have ha' : a < 0 := by omega
    clear ha
    by_cases hm : a.tmod n < 0
    · have H := Lib.hid (within_neg hn hn2 ha' hm)
      go_enter Try.func15, Try.ntmps15
      go_wp2
      go_ret
      exact ⟨by rw [← H.out]; rfl, rfl⟩
    · have H := Lib.hid (within_pos hn ha' hm)
      go_enter Try.func15, Try.ntmps15
      go_wp2
      go_ret
      exact ⟨by rw [← H.out]; rfl, rfl⟩
structure Sv (w0 W : World) (X : Nat → Prop) (p : Nat) (s : V) : Prop where
  at_ : At W X p s
  gr : Gr w0 W
  hi : ∀ i, X i → w0.heap.size ≤ i
section
variable {w0 W W' : World} {X X' : Nat → Prop} {p : Nat} {s s' : V}
theorem Sv.step (h : Sv w0 W X p s) (ha : At W' X' p s') (hm : Mv W X W' X') : Sv w0 W' X' p s' :=
  ⟨ha, h.gr.trans (hm.tr.below h.gr.size h.hi), fun i hi => by
    rcases hm.new i hi with h1 | h1
    · exact h.hi i h1
    · exact Nat.le_trans h.gr.size h1⟩
theorem Sv.more (h : Sv w0 W X p s) (hg : Gr W W') : Sv w0 W' X p s := ⟨h.at_.gr hg, h.gr.trans' hg, h.hi⟩
theorem Sv.new (ha : At W X p s) (hg : Gr w0 W) (hx : ∀ i, X i → w0.heap.size ≤ i) : Sv w0 W X p s := ⟨ha, hg, hx⟩
theorem Sv.ok (h : Sv w0 W X p s) : s.Ok := h.at_.1
theorem Mv.row {g : Nat} {t : TypeId} {xs : List Value} (hm : Mv W X W' X') (hr : Row W g t xs) (hx : ¬ X g) : Row W' g t xs ∧ ¬ X' g := by
  refine ⟨hm.tr.row hr hx, fun h => ?_⟩
  rcases hm.new g h with h1 | h1
  · exact hx h1
  · have := hr.lt
    omega
theorem Mv.rd {A : Option Addr} {xs : List Value} (hm : Mv W X W' X') (hr : Rd W A xs) (hx : ∀ ad, A = some ad → ¬ X ad.block) : Rd W' A xs := hm.tr.rd hr hx
theorem At.lt (h : At W X p s) : ∀ i, X i → i < W.heap.size := by
  obtain ⟨_, _, _, _, _, h⟩ := h
  exact h.lt
end
theorem write_ops (s : V) (n b : Str) : (s.write n b).1.ops ≤ s.ops + 1 := by
  unfold V.write
  split
  · simp
  · split
    · simp
    · split
      · simp
      · exact Nat.le_refl _
theorem remove_ops (s : V) (n : Str) : (s.remove n).1.ops ≤ s.ops + 1 := by
  unfold V.remove
  split
  · simp
  · split
    · exact Nat.le_refl _
    · simp
theorem flush_ops (s : V) : s.flush.1.ops ≤ s.ops + 1 := by
  unfold V.flush
  split
  · simp
  · split
    · exact Nat.le_refl _
    · exact Nat.le_refl _
theorem write_stop (s : V) (n b : Str) : (s.write n b).1.stop ≤ s.stop := by
  unfold V.write
  split
  · simp
  · split
    · simp
    · split
      · simp
      · exact Nat.sub_le _ _
theorem remove_stop (s : V) (n : Str) : (s.remove n).1.stop ≤ s.stop := by
  unfold V.remove
  split
  · simp
  · split
    · exact Nat.sub_le _ _
    · simp
theorem flush_stop (s : V) : s.flush.1.stop ≤ s.stop := by
  unfold V.flush
  split
  · simp
  · split
    · exact Nat.sub_le _ _
    · exact Nat.sub_le _ _
theorem sm_of {s : V} {a b : Nat} (h : s.ops ≤ a) (h' : s.stop ≤ b) (ha : a ≤ 1000000) (hb : b ≤ 1000000) : Sm s := ⟨by omega, by omega⟩
end Go.Proofs.Ytcfbkhgdlgnmgaa
set_option linter.unusedVariables false
set_option linter.unusedSimpArgs false
namespace Go.Proofs.Ytcfbkhgdlgnmgaa
open Go.RowKit Go.Maps Go.Sort
attribute [local go_sem] Vc.known_tmp Vc.known_const Vc.known_func Vc.known_global Vc.lk Vc.okUpon Vc.Fact.holds
structure SR (w0 W : World) (X R : Nat → Prop) (p q : Nat) (a b : V) : Prop where
  v : Sv w0 W X p a
  x : RAt W R q b
  hi : ∀ i, R i → w0.heap.size ≤ i
  ap : ∀ i, X i → R i → False
section
variable {w0 W W' : World} {X X' R R' : Nat → Prop} {p q : Nat} {a a' b b' : V}
theorem SR.stepV (h : SR w0 W X R p q a b) (ha : At W' X' p a') (hm : Mv W X W' X') : SR w0 W' X' R p q a' b :=
  ⟨h.v.step ha hm, h.x.frame hm.tr h.ap, h.hi, fun i hi hr => by
    rcases hm.new i hi with h1 | h1
    · exact h.ap i h1 hr
    · have := h.x.lt i hr
      omega⟩
theorem SR.stepX (h : SR w0 W X R p q a b) (ha : RAt W' R' q b') (hm : Mv W R W' R') : SR w0 W' X R' p q a b' :=
  ⟨⟨h.v.at_.frame hm.tr (fun i hr hx => h.ap i hx hr), h.v.gr.trans (hm.tr.below h.v.gr.size h.hi), h.v.hi⟩, ha, fun i hi => by
    rcases hm.new i hi with h1 | h1
    · exact h.hi i h1
    · exact Nat.le_trans h.v.gr.size h1, fun i hx hi => by
    rcases hm.new i hi with h1 | h1
    · exact h.ap i hx h1
    · have := h.v.at_.lt i hx
      omega⟩
theorem SR.more (h : SR w0 W X R p q a b) (hg : Gr W W') : SR w0 W' X R p q a b := ⟨h.v.more hg, h.x.gr hg, h.hi, h.ap⟩
end
theorem str_at {W : World} {A : Option Addr} {b : Str} {n : Nat} (c : Nat) (hn : b.length = n) (h : Rd W A (b.map bv)) : (convert 29 9 (.slice A n c)).run Try.prog W = .ok (encStr b) W :=
  run_str h _ _ _ n c hn.symm Try.underlying29 Try.underlying5 Try.underlying9
theorem get_le (s : V) (hok : s.Ok) (x : Str) : (s.read x).1.length ≤ 1048576 := by
  unfold V.read
  split
  · simp
  · exact get_room hok x
theorem enc_one (l : List Str) : ∀ u ∈ l.map encStr, u.oneCell' = true := by
  intro u hu
  obtain ⟨y, _, rfl⟩ := List.mem_map.1 hu
  rfl
section
variable {X R : Nat → Prop} {w w' : World} {p q : Nat} {s : V}
set_option maxRecDepth 20000 in
set_option maxHeartbeats 4000000 in
theorem same_any (h : At w X p s) (hx : RAt w R q s) (hs : Sm s) :
    Calls Try.prog 30 #[.pointer (some ⟨p, 0, none⟩), .pointer (some ⟨q, 0, none⟩)] w fun e w' => e = .returned (.bool true) ∧ Gr w w' := by
  have hok := h.1
  have hnl := hok.nowL
  have hso := hs.ops
  have hnames : ∀ x ∈ s.now.map (·.1), x.length ≤ 20 := fun x hx => by
    obtain ⟨y, hy, rfl⟩ := List.mem_map.1 hx
    exact (hok.nowB y hy).1
  obtain ⟨L, hL⟩ : ∃ L, s.now.map (·.1) = L := ⟨_, rfl⟩
  have HN := Lib.hid (names_any h hs)
  have HM := Lib.hid (fun W (hW : Gr w W) => rnames_any (hx.gr hW) hs)
  rw [hL] at HN HM hnames
  obtain ⟨m, hm⟩ : ∃ m, s.now.length = m := ⟨_, rfl⟩
  have hLm : L.length = m := by rw [← hL, List.length_map, hm]
  rw [hm] at HN HM hnl
  replace hL := Lib.hid hL
  replace hm := Lib.hid hm
  replace hLm := Lib.hid hLm
  have HD := Lib.hid (fun W (hW : Gr w W) => dead_any (h.gr hW))
  have HO := Lib.hid (fun W (hW : Gr w W) => ops_any (h.gr hW))
  have HR := Lib.hid (fun W (hW : Gr w W) => room_any (h.gr hW))
  have HU := Lib.hid (fun W (hW : Gr w W) => used_any (h.gr hW) hs)
  have HV := Lib.hid (fun W (hW : Gr w W) => rused2_any (hx.gr hW) hs)
  have HX := Lib.hid (fun W (hW : Gr w W) x (hn : x.length ≤ maxLen) => read_any (h.gr hW) x hn)
  have HY := Lib.hid (fun W (hW : Gr w W) x => rread_any (hx.gr hW) hs x)
  have Hle := Lib.hid (get_le s hok)
  obtain ⟨y0, y1, y2, y3, y4, y5⟩ := (show ∃ A1 c1 A2 c2, RMem w R q A1 c1 A2 c2 s from hx.2.2).choose_spec.choose_spec.choose_spec.choose_spec.cells
  have z := Lib.hid (And.intro y2 (And.intro y4 y5))
  obtain ⟨i0, hi, hz0, hz1, hz2⟩ := info_parts info_str
  clear y0 y1 y2 y3 y4 y5 hok
  go_enter Try.func30, Try.ntmps30
  go_wp2_with (first
    | (go_at_call 23; (with_reducible refine HN.out.mono ?_); rintro e w1 ⟨A3, n3, c3, rfl, hn3, ho3, hg3⟩; have hn3 := hn3.symm; subst hn3)
    | (go_at_call 58; (with_reducible refine (HM.out _ hg3).mono ?_); rintro e w2 ⟨A4, n4, c4, rfl, hn4, ho4, hg4⟩; have hn4 := hn4.symm; subst hn4))
  have hg2 := hg3.trans' hg4
  have hr3 := ho3.rd.gr hg4
  have hr4 := ho4.rd
  have hle4 := ho4.le
  have hle3 := ho3.le
  clear HN HM hg3 hg4 ho3 ho4
  generalize hdd : s.dead = d at *
  generalize s.ops = o at *
  generalize s.room = ro at *
  generalize s.now.used = us at *
  refine Vc.wp_region_facts ⟨Gr, fun _ => Gr, fun _ W => Gr w2 W, []⟩ (by kernel_rfl) (by kernel_rfl) (fun _ _ _ h h' => h'.trans' h) (Gr.draw _) ?_
  have e1 : (d != d) = false := by cases d <;> rfl
  have e2 : ((o : Int) != (o : Int)) = false := by simp
  have e3 : ((us : Int) != (us : Int)) = false := by simp
  have e4 : ((ro : Int) != (ro : Int)) = false := by simp
  have e5 : ((m : Int) != (m : Int)) = false := by simp
  repeat
    refine Vc.Walk.pure (v := ?_) (fun _ => Gr.rfl' _) rfl (by first | exact Vc.GuardYes.no rfl | exact Vc.GuardYes.yes rfl rfl) rfl rfl ?_ ?_
    rotate_left
    · intro _ W hI
      (clear hI)
      go_simp
      exact rfl
  refine Vc.Walk.call (.is (.bool d)) trivial (.no rfl) rfl rfl ?_ ?_
  · intro k W hI
    have hg := hI.g
    clear hI
    go_simp
    refine (HD.out W (hg2.trans' hg)).mono ?_
    rintro e W' ⟨rfl, rfl⟩
    exact ⟨_, rfl, rfl, Gr.rfl' _⟩
  repeat
    refine Vc.Walk.pure (v := ?_) (fun _ => Gr.rfl' _) rfl (by first | exact Vc.GuardYes.no rfl | exact Vc.GuardYes.yes rfl rfl) rfl rfl ?_ ?_
    rotate_left
    · intro _ W hI
      (have q := hg2.trans' hI.g; clear hI; have q2 := q.cell z.out.2.1; clear q)
      go_simp
      exact rfl
  refine Vc.Walk.call (.is (.int .i64 o)) trivial (.yes rfl rfl) rfl rfl ?_ ?_
  · intro k W hI
    have hg := hI.g
    clear hI
    go_simp
    refine (HO.out W (hg2.trans' hg)).mono ?_
    rintro e W' ⟨rfl, rfl⟩
    exact ⟨_, rfl, rfl, Gr.rfl' _⟩
  repeat
    refine Vc.Walk.pure (v := ?_) (fun _ => Gr.rfl' _) rfl (by first | exact Vc.GuardYes.no rfl | exact Vc.GuardYes.yes rfl rfl) rfl rfl ?_ ?_
    rotate_left
    · intro _ W hI
      (have q := hg2.trans' hI.g; clear hI; have q2 := q.cell z.out.2.2; clear q)
      go_simp
      exact rfl
  refine Vc.Walk.call (.is (.int .i64 us)) trivial (.yes rfl rfl) rfl rfl ?_ ?_
  · intro k W hI
    have hg := hI.g
    clear hI
    go_simp
    refine (HU.out W (hg2.trans' hg)).mono ?_
    rintro e W' ⟨rfl, hg'⟩
    exact ⟨_, rfl, rfl, hg'⟩
  repeat
    refine Vc.Walk.pure (v := ?_) (fun _ => Gr.rfl' _) rfl (by first | exact Vc.GuardYes.no rfl | exact Vc.GuardYes.yes rfl rfl) rfl rfl ?_ ?_
    rotate_left
    · intro _ W hI
      (clear hI)
      go_simp
      exact rfl
  refine Vc.Walk.call (.is (.int .i64 us)) trivial (.yes rfl rfl) rfl rfl ?_ ?_
  · intro k W hI
    have hg := hI.g
    clear hI
    go_simp
    refine (HV.out W (hg2.trans' hg)).mono ?_
    rintro e W' ⟨rfl, hg'⟩
    exact ⟨_, rfl, rfl, hg'⟩
  repeat
    refine Vc.Walk.pure (v := ?_) (fun _ => Gr.rfl' _) rfl (by first | exact Vc.GuardYes.no rfl | exact Vc.GuardYes.yes rfl rfl) rfl rfl ?_ ?_
    rotate_left
    · intro _ W hI
      (clear hI)
      go_simp
      exact rfl
  refine Vc.Walk.call (.is (.int .i64 ro)) trivial (.yes rfl rfl) rfl rfl ?_ ?_
  · intro k W hI
    have hg := hI.g
    clear hI
    go_simp
    refine (HR.out W (hg2.trans' hg)).mono ?_
    rintro e W' ⟨rfl, rfl⟩
    exact ⟨_, rfl, rfl, Gr.rfl' _⟩
  repeat
    refine Vc.Walk.pure (v := ?_) (fun _ => Gr.rfl' _) rfl (by first | exact Vc.GuardYes.no rfl | exact Vc.GuardYes.yes rfl rfl) rfl rfl ?_ ?_
    rotate_left
    · intro _ W hI
      (have q := hg2.trans' hI.g; clear hI; have q2 := q.cell z.out.1; clear q)
      go_simp
      exact rfl
  intro W hW
  have hW : Gr w2 W := hW
  simp only [List.reverse_cons, List.reverse_nil, List.nil_append, List.cons_append, Vc.finish, Act.put, List.setIfInBounds_toArray, List.set_cons_zero, List.set_cons_succ]
  have hr4 := hr4.gr hW
  have hr3 := hr3.gr hW
  have hgW := hg2.trans' hW
  have hml : m ≤ 1000000 := Nat.le_trans hnl hso
  have hLc : (L.map encStr).length = m * 1 := by rw [List.length_map, hLm.out, Nat.mul_one]
  replace hLc := Lib.hid hLc
  clear HD HO HR HU HV z e1 e2 e3 e4 e5 hW hg2
  go_wp2_with (first
    | (at_builtin; with_reducible refine wpList_append (o := ⟨some 60, _, _, _, _, _⟩) _ rfl _ _ 43 rfl W.heap.size 9 i0 _ 1 16 Try.underlying43 hi hz0 hz1 hz2 rfl (by omega) _ 0 0 [] rfl (Own.empty W 9 1) A4 m _ (L.map encStr) rfl hLc.out (hr4.gr (Gr.alloc1 _ _)) (enc_one _) (by omega) (by unfold maxLen; omega) (by simp) ?_
       intro A5 c5 w5 ho5 hk5
       have hg5 : Gr W w5 := Gr.grownBk (Gr.alloc1 W _) hk5.grown (fun g hg => by injection hg with hg; exact Nat.le_of_eq hg)
       rw [Nat.zero_add, List.nil_append] at ho5
       have ho5 := Lib.hid ho5
       clear hk5)
    | (at_builtin; with_reducible refine wpList_append (o := ⟨some 62, _, _, _, _, _⟩) _ rfl _ _ 43 rfl W.heap.size 9 i0 _ 1 16 Try.underlying43 hi hz0 hz1 hz2 rfl (by omega) A5 m c5 _ rfl (ho5.out.gr (Gr.alloc1 _ _)) _ 2 2 [encStr [], encStr [110, 111, 110, 101]] rfl rfl (Rd.new _ [encStr [], encStr [110, 111, 110, 101]] _) (by simp [Value.oneCell']) (by omega) (by unfold maxLen; omega) (hg5.trans' (Gr.alloc1 _ _)).size ?_
       intro A6 c6 w6 ho6 hk6
       have hg6 : Gr W w6 := Gr.grownBk (hg5.trans' (Gr.alloc1 _ _)) hk6.grown (fun g hg => (ho5.out.blk g hg).1)
       rw [show L.map encStr ++ [encStr [], encStr [110, 111, 110, 101]] = (L ++ [[], [110, 111, 110, 101]]).map encStr by simp] at ho6
       have ho6 := Lib.hid ho6
       clear hk6))
  obtain ⟨M, hM⟩ : ∃ M, L ++ [[], [110, 111, 110, 101]] = M := ⟨_, rfl⟩
  rw [hM] at ho6
  have hMl : M.length = m + 2 := by rw [← hM, List.length_append, hLm.out]; rfl
  have hMx : ∀ x ∈ M, x.length ≤ 20 := fun x hx => by
    rw [← hM] at hx
    rcases List.mem_append.1 hx with hx | hx
    · exact hnames x hx
    · simp only [List.mem_cons, List.not_mem_nil, or_false] at hx
      rcases hx with rfl | rfl <;> decide
  have hMj : ∀ j (h : j < m) (h' : j < M.length), M[j] = L[j]'(by rw [hLm.out]; exact h) := fun j h h' => by
    subst hM
    rw [List.getElem_append_left (by rw [hLm.out]; exact h)]
  replace hM := Lib.hid hM
  replace hMl := Lib.hid hMl
  replace hMj := Lib.hid hMj
  clear ho5 hg5 hnames hLc
  obtain ⟨gA, rfl, hcA⟩ := own_head ho6.out (by rw [List.length_map, hMl.out]; omega)
  go_loopw [8] (fun i wr => ∃ j : Nat, j ≤ m + 2 ∧ i = .int .i64 j ∧ Gr w6 wr) (fun i _ => m + 2 - (intOf i).toNat)
  case atStart => exact ⟨0, by omega, rfl, Gr.rfl' _⟩
  case round =>
    obtain ⟨j, hj, rfl, hb⟩ := hrel
    by_cases hlt : j < m + 2
    · have hjM : j < M.length := by rw [hMl.out]; exact hlt
      have hx := hb.cell (hcA j (encStr M[j]) (by rw [List.getElem?_map, List.getElem?_eq_getElem hjM]; rfl))
      have hxl := hMx M[j] (List.getElem_mem hjM)
      have HXx := Lib.hid (fun W hW (hn : M[j].length ≤ maxLen) => HX.out W hW M[j] hn)
      have HYx := Lib.hid (fun W hW => HY.out W hW M[j])
      have hlex := Hle.out M[j]
      have i1 : (j : Int) < (m : Int) + 2 := by omega
      by_cases hjm : j < m
      · obtain ⟨ad3, rfl, x3⟩ := (hr3.gr (hg6.trans' hb)).at_ (k := j) (by rw [List.length_map, hLm.out]; exact hjm)
        obtain ⟨ad4, rfl, x4⟩ := (hr4.gr (hg6.trans' hb)).at_ (k := j) (by rw [List.length_map, hLm.out]; exact hjm)
        rw [List.getElem_map, ← hMj.out j hjm hjM] at x3 x4
        generalize M[j] = x at *
        generalize s.read x = rd at *
        obtain ⟨rb, ri, re⟩ := rd
        simp only at HXx HYx hlex
        have e1 : (ri != ri) = false := by cases ri <;> rfl
        have e2 : (re != re) = false := by simp
        have e3 : (x != x) = false := by simp
        have e4 : (rb != rb) = false := by simp
        go_wp2_with fail
        go_quiet (fail)
        go_wp2_with (first
          | (go_at_call 44; (with_reducible refine (HXx.out _ ((hgW.trans' (hg6.trans' hb)).trans' (Gr.drawN _ _)) (by unfold maxLen; omega)).mono ?_); rintro e w7 ⟨A7, m7, c7, rfl, hm7, ho7, hg7⟩
             replace hm7 := Lib.hid hm7
             have hx7 := hg7.cell hx)
          | (go_at_call 54; (with_reducible refine (HYx.out _ (((hgW.trans' (hg6.trans' hb)).trans' (Gr.drawN _ _)).trans' hg7)).mono ?_); rintro e w8 ⟨rfl, hg8⟩
             have s7 := str_at c7 hm7.out.symm (ho7.rd.gr hg8)))
        go_roundw
        case rel => exact ⟨j + 1, by omega, by go_num, ((hb.trans' (Gr.drawN _ _)).trans' hg7).trans' hg8⟩
        case measure => simp [intOf]; omega
      · generalize M[j] = x at *
        generalize s.read x = rd at *
        obtain ⟨rb, ri, re⟩ := rd
        simp only at HXx HYx hlex
        have e1 : (ri != ri) = false := by cases ri <;> rfl
        have e2 : (re != re) = false := by simp
        have e4 : (rb != rb) = false := by simp
        have hjm' : ¬ (j : Int) < (m : Int) := by omega
        go_wp2_with fail
        go_quiet (fail)
        go_wp2_with (first
          | (go_at_call 44; (with_reducible refine (HXx.out _ ((hgW.trans' (hg6.trans' hb)).trans' (Gr.drawN _ _)) (by unfold maxLen; omega)).mono ?_); rintro e w7 ⟨A7, m7, c7, rfl, hm7, ho7, hg7⟩
             replace hm7 := Lib.hid hm7
             have hx7 := hg7.cell hx)
          | (go_at_call 54; (with_reducible refine (HYx.out _ (((hgW.trans' (hg6.trans' hb)).trans' (Gr.drawN _ _)).trans' hg7)).mono ?_); rintro e w8 ⟨rfl, hg8⟩
             have s7 := str_at c7 hm7.out.symm (ho7.rd.gr hg8)))
        go_roundw
        case rel => exact ⟨j + 1, by omega, by go_num, ((hb.trans' (Gr.drawN _ _)).trans' hg7).trans' hg8⟩
        case measure => simp [intOf]; omega
    · obtain rfl : j = m + 2 := by omega
      go_wp2
      go_ret
      exact ⟨rfl, hgW.trans' (hg6.trans' hb)⟩
end
end Go.Proofs.Ytcfbkhgdlgnmgaa
set_option linter.unusedVariables false
set_option linter.unusedSimpArgs false
namespace Go.Proofs.Ytcfbkhgdlgnmgaa
open Go.RowKit Cd
theorem crash_rising : ∀ (cs : List Ch) (ks : List Int) (l : Files), l.Rising → (crashF l cs ks).Rising
  | [], ks, l, h => by cases ks <;> exact h
  | c :: cs, [], l, h => h
  | c :: cs, k :: ks, l, h => by
    unfold crashF
    refine crash_rising cs ks _ ?_
    split
    · exact act_rising h c
    · split
      · exact act_rising h _
      · exact h
structure Clean (K : Files) (v : V) : Prop where
  now : v.now = K
  kept : v.kept = K
  since : v.since = []
  live : v.dead = false
  up : K.Rising
theorem Clean.crash {K : Files} {v : V} (h : v.kept.Rising) (keep : List Int) (e : crashF v.kept v.since keep = K) : Clean K (v.crash keep) :=
  ⟨e, e, rfl, rfl, by rw [← e]; exact crash_rising _ _ _ h⟩
theorem Clean.stopAt {K : Files} {v : V} (h : Clean K v) (n : Int) : Clean K (v.stopAt n) := ⟨h.now, h.kept, h.since, h.live, h.up⟩
def putAll (F : Files) (l : List Fl) : Files := l.foldl (fun F f => F.put f.1 f.2) F
def growF (F : Files) (l : List Fl) : Nat := (l.map fun f => f.2.length - ((F.get f.1).getD []).length).sum
end Go.Proofs.Ytcfbkhgdlgnmgaa
set_option linter.unusedVariables false
set_option linter.unusedSimpArgs false
namespace Go.Proofs.Ytcfbkhgdlgnmgaa
open Go.RowKit Cd
theorem thn_ok {r : V × Int} {f : V → V × Int} (h : r.2 = 0) : V.thn r f = f r.1 := by unfold V.thn; rw [if_neg (by simp [h])]
theorem thn_bad {r : V × Int} {f : V → V × Int} (h : r.2 ≠ 0) : V.thn r f = r := by unfold V.thn; rw [if_pos h]
abbrev nmsL (l : List Fl) : List Str := l.map (·.1)
structure LOk (l : List Fl) : Prop where
  nd : (nmsL l).Nodup
  nm : ∀ f ∈ l, f.1 ≠ [] ∧ f.1.length ≤ 20
  nj : jn ∉ nmsL l
  nk : mk ∉ nmsL l
theorem LOk.of {l : List Fl} (h : mayM l = 0) : LOk l := by
  obtain ⟨_, _, h3⟩ := mayM_zero h
  have hb := fun f hf => nameBad_len (mayGo_zero h3 f hf).1
  refine ⟨(mayGo_nodup h3).1, fun f hf => ⟨(hb f hf).1, (hb f hf).2.1⟩, fun hm => ?_, fun hm => ?_⟩
  · obtain ⟨f, hf, e⟩ := List.mem_map.1 hm
    exact (hb f hf).2.2.1 e
  · obtain ⟨f, hf, e⟩ := List.mem_map.1 hm
    exact (hb f hf).2.2.2 e
def DurA (G K : Files) : Prop := K.get mk = none ∧ ∀ n, n ≠ mk → n ≠ jn → K.get n = G.get n
def DurB (M : Nat) (F : Files) (l : List Fl) (K : Files) : Prop :=
  K.get mk = some [] ∧ K.get jn = some (bytesM l) ∧ (∀ n, n ∉ nmsL l → n ≠ mk → n ≠ jn → K.get n = F.get n) ∧ ∀ n x, n ∈ nmsL l → K.get n = some x → x.length ≤ M
def Dur (M : Nat) (F : Files) (l : List Fl) (K : Files) : Prop := DurA F K ∨ DurB M F l K ∨ DurA (putAll F l) K
end Go.Proofs.Ytcfbkhgdlgnmgaa
set_option linter.unusedVariables false
set_option linter.unusedSimpArgs false
namespace Go.Proofs.Ytcfbkhgdlgnmgaa
open Go.RowKit Go.Maps Go.Sort
section
variable {X Z : Nat → Prop} {w w' : World} {p : Nat} {s : V} {A : Option Addr} {rs : List FlR}
structure Sl (s : V) : Prop where
  ops : s.ops ≤ 900000
  stop : s.stop ≤ 1000000
theorem Sl.sm (h : Sl s) : Sm s := sm_of h.ops h.stop (by omega) (by omega)
theorem Sl.write (h : Sl s) (n b : Str) : Sm (s.write n b).1 := sm_of (Nat.le_trans (write_ops s n b) (Nat.succ_le_succ h.ops)) (Nat.le_trans (write_stop s n b) h.stop) (by omega) (by omega)
theorem Sl.remove (h : Sl s) (n : Str) : Sm (s.remove n).1 := sm_of (Nat.le_trans (remove_ops s n) (Nat.succ_le_succ h.ops)) (Nat.le_trans (remove_stop s n) h.stop) (by omega) (by omega)
set_option maxHeartbeats 1000000 in
theorem put_any (h : At w X p s) (hs : Sl s) (n : Str) (hn : n.length ≤ maxLen) (A2 : Option Addr) (n2 c2 : Nat) (b : Str) (hb : Hid (b.length = n2)) (hr : Rd w A2 (b.map bv)) (hl : n2 ≤ 1000000) :
    Calls Try.prog 42 #[.pointer (some ⟨p, 0, none⟩), encStr n, .slice A2 n2 c2] w fun e w' => e = .returned (.int .i64 (putM s n b).2) ∧ ∃ X', At w' X' p (putM s n b).1 ∧ Mv w X w' X' := by
  have HW := Lib.hid (write_any h hs.sm n hn A2 n2 c2 b hb hr hl)
  have HF := Lib.hid (fun W X1 (ha : At W X1 p (s.write n b).1) => flush_any ha (hs.write n b))
  unfold putM
  generalize s.write n b = r at *
  obtain ⟨v, e⟩ := r
  simp only at *
  by_cases he : e = 0
  · subst he
    rw [if_neg (by simp)]
    go_enter Try.func42, Try.ntmps42
    go_wp2_with (first
      | (go_at_call 17; refine HW.out.mono ?_; rintro e w1 ⟨rfl, X1, ha, hm⟩)
      | (go_at_call 18; refine (HF.out _ _ ha).mono ?_; rintro e w2 ⟨rfl, X2, ha2, hm2⟩))
    go_ret
    exact ⟨rfl, X2, ha2, hm.trans hm2⟩
  · rw [if_pos he]
    have he2 : (e == 0) = false := by simpa using he
    go_enter Try.func42, Try.ntmps42
    go_wp2_with (go_at_call 17; refine HW.out.mono ?_; rintro e w1 ⟨rfl, X1, ha, hm⟩)
    go_ret
    exact ⟨rfl, X1, ha, hm⟩
set_option maxHeartbeats 1000000 in
theorem away_any (h : At w X p s) (hs : Sl s) (n : Str) (hn : n.length ≤ maxLen) :
    Calls Try.prog 46 #[.pointer (some ⟨p, 0, none⟩), encStr n] w fun e w' => e = .returned (.int .i64 (awayM s n).2) ∧ ∃ X', At w' X' p (awayM s n).1 ∧ Mv w X w' X' := by
  have HW := Lib.hid (remove_any h hs.sm n hn)
  have HF := Lib.hid (fun W X1 (ha : At W X1 p (s.remove n).1) => flush_any ha (hs.remove n))
  unfold awayM
  generalize s.remove n = r at *
  obtain ⟨v, e⟩ := r
  simp only at *
  by_cases he : e = 0
  · subst he
    rw [if_neg (by simp)]
    go_enter Try.func46, Try.ntmps46
    go_wp2_with (first
      | (go_at_call 67; refine HW.out.mono ?_; rintro e w1 ⟨rfl, X1, ha, hm⟩)
      | (go_at_call 18; refine (HF.out _ _ ha).mono ?_; rintro e w2 ⟨rfl, X2, ha2, hm2⟩))
    go_ret
    exact ⟨rfl, X2, ha2, hm.trans hm2⟩
  · rw [if_pos he]
    have he2 : (e == 0) = false := by simpa using he
    go_enter Try.func46, Try.ntmps46
    go_wp2_with (go_at_call 67; refine HW.out.mono ?_; rintro e w1 ⟨rfl, X1, ha, hm⟩)
    go_ret
    exact ⟨rfl, X1, ha, hm⟩
theorem writeAll_ops : ∀ (l : List Fl) (s : V), (writeAll s l).1.ops ≤ s.ops + l.length ∧ (writeAll s l).1.stop ≤ s.stop
  | [], s => ⟨Nat.le_refl _, Nat.le_refl _⟩
  | f :: l, s => by
    rw [writeAll]
    have h1 := write_ops s f.1 f.2
    have h2 := write_stop s f.1 f.2
    have h3 := writeAll_ops l (s.write f.1 f.2).1
    rw [List.length_cons]
    split
    · exact ⟨by omega, h2⟩
    · exact ⟨by omega, by omega⟩
theorem putM_ops (s : V) (n b : Str) : (putM s n b).1.ops ≤ s.ops + 2 ∧ (putM s n b).1.stop ≤ s.stop := by
  unfold putM
  have h1 := write_ops s n b
  have h2 := write_stop s n b
  have h3 := flush_ops (s.write n b).1
  have h4 := flush_stop (s.write n b).1
  split
  · exact ⟨by omega, h2⟩
  · exact ⟨by omega, by omega⟩
theorem awayM_ops (s : V) (n : Str) : (awayM s n).1.ops ≤ s.ops + 2 ∧ (awayM s n).1.stop ≤ s.stop := by
  unfold awayM
  have h1 := remove_ops s n
  have h2 := remove_stop s n
  have h3 := flush_ops (s.remove n).1
  have h4 := flush_stop (s.remove n).1
  split
  · exact ⟨by omega, h2⟩
  · exact ⟨by omega, by omega⟩
structure Sc (s : V) : Prop where
  ops : s.ops ≤ 800000
  stop : s.stop ≤ 1000000
theorem Sc.sl (h : Sc s) {s' : V} (h1 : s'.ops ≤ s.ops + 10000) (h2 : s'.stop ≤ s.stop) : Sl s' := ⟨by have := h.ops; omega, by have := h.stop; omega⟩
def restM : Nat → V → V × Int
  | 0, v => V.thn (awayM v mk) (awayM · jn)
  | 1, v => awayM v jn
  | _, v => (v, 0)
theorem writeM_rest (s : V) (l : List Fl) : writeM s l = V.thn (V.thn (writeAll s l) V.flush) (restM 0) := by
  unfold writeM
  by_cases h1 : (writeAll s l).2 = 0
  · rw [thn_ok h1]
    generalize (writeAll s l).1.flush = r
    by_cases h2 : r.2 = 0
    · rw [thn_ok h2, thn_ok h2]
      rfl
    · rw [thn_bad h2, thn_bad h2, thn_bad h2]
  · rw [thn_bad h1, thn_bad h1, thn_bad h1, thn_bad h1]
set_option maxHeartbeats 4000000 in
theorem cwrite_any (h : At w X p s) (hs : Sc s) (hf : FlS w Z A rs) (hz : ∀ i, Z i → ¬ X i ∧ i < w.heap.size) (c : Nat) (hl : rs.length ≤ 255) (hb : ∀ f ∈ rs, f.q.n ≤ 1000000) :
    Calls Try.prog 43 #[.pointer (some ⟨p, 0, none⟩), .slice A rs.length c] w fun e w' => e = .returned (.int .i64 (writeM s (rs.map FlR.fl)).2) ∧ ∃ X', At w' X' p (writeM s (rs.map FlR.fl)).1 ∧ Mv w X w' X' := by
  obtain ⟨l, hl0⟩ : ∃ l, l = rs.map FlR.fl := ⟨_, rfl⟩
  rw [← hl0, writeM_rest]
  have hll : l.length = rs.length := by rw [hl0, List.length_map]
  generalize hn : rs.length = n at hl hll ⊢
  obtain ⟨R, hR⟩ : ∃ R, R = writeAll s l := ⟨_, rfl⟩
  rw [← hR]
  have HR := Lib.hid hR
  clear hR
  go_enter Try.func43, Try.ntmps43
  go_wp2_with fail
  go_loopw [11] (fun i wr => ∃ j : Nat, j ≤ n ∧ i = .int .i64 j ∧ ∃ X1 v, Hid (At wr X1 p v) ∧ Hid (R = writeAll v (l.drop j)) ∧ Hid (Mv w X wr X1) ∧ Hid (v.ops ≤ s.ops + j ∧ v.stop ≤ s.stop)) (fun i _ => n - (intOf i).toNat)
  case atStart => exact ⟨0, by omega, rfl, X, s, Lib.hid h, Lib.hid (by rw [HR.out]; rfl), Lib.hid (Mv.rfl' _ _), Lib.hid ⟨by omega, by omega⟩⟩
  case round =>
    obtain ⟨j, hj, rfl, X1, v, hat, hR, hmv, hov⟩ := hrel
    by_cases hlt : j < n
    · have hjl : j < rs.length := by omega
      have hfr := hf.tr hmv.out.tr (fun i hi => (hz i hi).1)
      obtain ⟨g, off, rfl, x0, x1⟩ := hfr.at_ hjl
      obtain ⟨hq, hnm, _⟩ := hfr.ok _ (List.getElem_mem hjl)
      have hqn := hb _ (List.getElem_mem hjl)
      have hlj : l[j]'(by omega) = rs[j].fl := by simp [hl0]
      have hR1 : R = if (v.write rs[j].nm rs[j].q.b).2 ≠ 0 then v.write rs[j].nm rs[j].q.b else writeAll (v.write rs[j].nm rs[j].q.b).1 (l.drop (j + 1)) := by
        rw [hR.out, List.drop_eq_getElem_cons (by omega), hlj]
        rfl
      have hov1 := write_ops v rs[j].nm rs[j].q.b
      have hov2 := write_stop v rs[j].nm rs[j].q.b
      have hsl := hs.sl (s' := v) (by have := hov.out.1; omega) hov.out.2
      have HW := Lib.hid (fun W (hg : Gr wr W) => write_any (hat.out.gr hg) hsl.sm rs[j].nm hnm rs[j].q.A rs[j].q.n rs[j].q.c rs[j].q.b hq.len (hq.rd.gr hg) hqn)
      generalize v.write rs[j].nm rs[j].q.b = r at hR1 hov1 hov2 HW
      obtain ⟨v1, e1⟩ := r
      simp only at hR1 hov1 hov2 HW
      have hov3 := Lib.hid (show v1.ops ≤ s.ops + (j + 1) ∧ v1.stop ≤ s.stop from ⟨by have := hov.out.1; omega, Nat.le_trans hov2 hov.out.2⟩)
      clear hov1 hov2 hov hsl hq hnm hqn hlj hfr hR hat
      by_cases he : e1 = 0
      · subst he
        rw [if_neg (by simp)] at hR1
        have hR2 := Lib.hid hR1
        clear hR1
        go_wp2_with (go_at_call 17; refine (HW.out _ (Gr.alloc1 _ _)).mono ?_; rintro e w2 ⟨rfl, X2, ha, hm⟩)
        go_roundw
        case rel => exact ⟨j + 1, by omega, by go_num, X2, v1, Lib.hid ha, hR2, Lib.hid (hmv.out.trans ((Mv.of_gr (Gr.alloc1 _ _) _).trans hm)), hov3⟩
        case measure => simp [intOf]; omega
      · rw [if_pos he] at hR1
        have he2 : (e1 == 0) = false := by simpa using he
        have HE := Lib.hid (show V.thn (V.thn R V.flush) (restM 0) = (v1, e1) from by rw [hR1, thn_bad (r := (v1, e1)) he, thn_bad (r := (v1, e1)) he])
        clear hR1
        go_wp2_with (go_at_call 17; refine (HW.out _ (Gr.alloc1 _ _)).mono ?_; rintro e w2 ⟨rfl, X2, ha, hm⟩)
        go_ret
        rw [HE.out]
        exact ⟨rfl, X2, ha, hmv.out.trans ((Mv.of_gr (Gr.alloc1 _ _) _).trans hm)⟩
    · obtain rfl : j = n := by omega
      have hR1 : R = (v, 0) := by rw [hR.out, List.drop_of_length_le (by omega)]; rfl
      have hsl := hs.sl (s' := v) (by have := hov.out.1; omega) hov.out.2
      have hov1 := flush_ops v
      have hov2 := flush_stop v
      have HF := Lib.hid (flush_any hat.out hsl.sm)
      have hE : V.thn (V.thn R V.flush) (restM 0) = V.thn v.flush (restM 0) := by rw [hR1, thn_ok (r := (v, 0)) rfl]
      generalize v.flush = r at hov1 hov2 HF hE
      obtain ⟨v1, e1⟩ := r
      simp only at hov1 hov2 HF
      have hov3 := Lib.hid (show v1.ops ≤ s.ops + 300 ∧ v1.stop ≤ s.stop from ⟨by have := hov.out.1; omega, Nat.le_trans hov2 hov.out.2⟩)
      clear hov1 hov2 hov hsl hR hat hR1
      by_cases he : e1 = 0
      · subst he
        rw [thn_ok (r := (v1, 0)) rfl] at hE
        have HE := Lib.hid hE
        clear hE
        go_wp2_with (go_at_call 18; refine HF.out.mono ?_; rintro e w2 ⟨rfl, X2, ha, hm⟩; have hm2 := Lib.hid (hmv.out.trans hm); have ha2 := Lib.hid ha; clear hm ha hmv)
        have hrow := Lib.hid (show Row (w2.alloc (.cells #[.string ⟨#[109, 97, 114, 107]⟩, .string ⟨#[106, 111, 117, 114, 110, 97, 108]⟩] 9)) w2.heap.size 9 [encStr mk, encStr jn] from Row.new w2 9 [encStr mk, encStr jn])
        have ha3 := Lib.hid (ha2.out.gr (Gr.alloc1 w2 (.cells #[.string ⟨#[109, 97, 114, 107]⟩, .string ⟨#[106, 111, 117, 114, 110, 97, 108]⟩] 9)))
        have hm3 := Lib.hid (hm2.out.trans (Mv.of_gr (Gr.alloc1 w2 (.cells #[.string ⟨#[109, 97, 114, 107]⟩, .string ⟨#[106, 111, 117, 114, 110, 97, 108]⟩] 9)) X2))
        have hnx := Lib.hid (show ¬ X2 w2.heap.size from fun hx => by have := ha2.out.lt _ hx; omega)
        clear ha2 hm2 HF HR
        generalize w2.alloc (.cells #[.string ⟨#[109, 97, 114, 107]⟩, .string ⟨#[106, 111, 117, 114, 110, 97, 108]⟩] 9) = w3 at hrow ha3 hm3 ⊢
        generalize w2.heap.size = gB at hrow hnx ⊢
        go_loopw [32] (fun i wr => ∃ k : Nat, k ≤ 2 ∧ i = .int .i64 k ∧ ∃ X4 v4, Hid (At wr X4 p v4) ∧ Hid (V.thn (V.thn R V.flush) (restM 0) = restM k v4) ∧ Hid (Mv w X wr X4) ∧ Hid (v4.ops ≤ s.ops + 300 + 2 * k ∧ v4.stop ≤ s.stop) ∧ Hid (Row wr gB 9 [encStr mk, encStr jn]) ∧ Hid (¬ X4 gB)) (fun i _ => 2 - (intOf i).toNat)
        case atStart => exact ⟨0, by omega, rfl, X2, v1, ha3, HE, hm3, Lib.hid ⟨by have := hov3.out.1; omega, hov3.out.2⟩, hrow, hnx⟩
        case round =>
          obtain ⟨k, hk, rfl, X4, v4, hat, hE4, hmv, hov, hrow, hnx⟩ := hrel
          have hsl := hs.sl (s' := v4) (by have := hov.out.1; omega) hov.out.2
          rcases (by omega : k = 0 ∨ k = 1 ∨ k = 2) with rfl | rfl | rfl
          · have x0 : wr.cell? ⟨gB, 0, none⟩ = some (encStr mk) := (hrow.out.cell 0).trans rfl
            have HW := Lib.hid (away_any hat.out hsl mk (by decide))
            have ho := awayM_ops v4 mk
            have hE5 := hE4.out
            rw [restM] at hE5
            generalize awayM v4 mk = r at HW ho hE5
            obtain ⟨v5, e5⟩ := r
            simp only at HW ho
            have hov5 := Lib.hid (show v5.ops ≤ s.ops + 300 + 2 * 1 ∧ v5.stop ≤ s.stop from ⟨by have := hov.out.1; omega, Nat.le_trans ho.2 hov.out.2⟩)
            clear ho hov hsl hE4 hat
            by_cases he : e5 = 0
            · subst he
              rw [thn_ok (r := (v5, 0)) rfl] at hE5
              have HE5 := Lib.hid hE5
              clear hE5
              go_wp2_with (go_at_call 46; refine HW.out.mono ?_; rintro e w5 ⟨rfl, X5, ha, hm⟩)
              go_roundw
              case rel => exact ⟨1, by omega, by go_num, X5, v5, Lib.hid ha, HE5, Lib.hid (hmv.out.trans hm), hov5, Lib.hid (hm.row hrow.out hnx.out).1, Lib.hid (hm.row hrow.out hnx.out).2⟩
              case measure => simp [intOf]
            · have he2 : (e5 == 0) = false := by simpa using he
              rw [thn_bad (r := (v5, e5)) he] at hE5
              have HE5 := Lib.hid hE5
              clear hE5
              go_wp2_with (go_at_call 46; refine HW.out.mono ?_; rintro e w5 ⟨rfl, X5, ha, hm⟩)
              go_ret
              rw [HE5.out]
              exact ⟨rfl, X5, ha, hmv.out.trans hm⟩
          · have x0 : wr.cell? ⟨gB, 1, none⟩ = some (encStr jn) := (hrow.out.cell 1).trans rfl
            have HW := Lib.hid (away_any hat.out hsl jn (by decide))
            have ho := awayM_ops v4 jn
            have hE5 := hE4.out
            rw [show restM 1 v4 = awayM v4 jn from rfl] at hE5
            generalize awayM v4 jn = r at HW ho hE5
            obtain ⟨v5, e5⟩ := r
            simp only at HW ho
            have hov5 := Lib.hid (show v5.ops ≤ s.ops + 300 + 2 * 2 ∧ v5.stop ≤ s.stop from ⟨by have := hov.out.1; omega, Nat.le_trans ho.2 hov.out.2⟩)
            have HE5 := Lib.hid hE5
            clear ho hov hsl hE4 hat hE5
            by_cases he : e5 = 0
            · subst he
              go_wp2_with (go_at_call 46; refine HW.out.mono ?_; rintro e w5 ⟨rfl, X5, ha, hm⟩)
              go_roundw
              case rel => exact ⟨2, by omega, by go_num, X5, v5, Lib.hid ha, HE5, Lib.hid (hmv.out.trans hm), hov5, Lib.hid (hm.row hrow.out hnx.out).1, Lib.hid (hm.row hrow.out hnx.out).2⟩
              case measure => simp [intOf]
            · have he2 : (e5 == 0) = false := by simpa using he
              go_wp2_with (go_at_call 46; refine HW.out.mono ?_; rintro e w5 ⟨rfl, X5, ha, hm⟩)
              go_ret
              rw [HE5.out]
              exact ⟨rfl, X5, ha, hmv.out.trans hm⟩
          · go_wp2
            go_ret
            rw [hE4.out]
            exact ⟨rfl, X4, hat.out, hmv.out⟩
      · have he2 : (e1 == 0) = false := by simpa using he
        rw [thn_bad (r := (v1, e1)) he] at hE
        have HE := Lib.hid hE
        clear hE
        go_wp2_with (go_at_call 18; refine HF.out.mono ?_; rintro e w2 ⟨rfl, X2, ha, hm⟩)
        go_ret
        rw [HE.out]
        exact ⟨rfl, X2, ha, hmv.out.trans hm⟩
theorem growF_take {F : Files} {l : List Fl} {j : Nat} (h : j < l.length) : growF F (l.take (j + 1)) = growF F (l.take j) + (l[j].2.length - ((F.get l[j].1).getD []).length) := by
  unfold growF
  rw [List.take_succ_eq_append_getElem h, List.map_append, List.sum_append]
  simp
theorem growF_le {F : Files} {l : List Fl} (hl : ∀ f ∈ l, f.2.length ≤ 1000000) : growF F l ≤ l.length * 1000000 := by
  unfold growF
  induction l with
  | nil => simp
  | cons f l ih =>
    have h1 := hl f (by simp)
    have h2 := ih (fun g hg => hl g (by simp [hg]))
    rw [List.map_cons, List.sum_cons, List.length_cons, Nat.succ_mul]
    omega
set_option maxHeartbeats 4000000 in
theorem fits_any (h : At w X p s) (hs : Sc s) (hf : FlS w Z A rs) (c : Nat) (hl : rs.length ≤ 255) (h1 : 1 ≤ rs.length) (hb : ∀ f ∈ rs, f.q.n ≤ 1000000) (A2 : Option Addr) (n2 c2 : Nat) (b : Str) (hn2 : b.length = n2) (hl2 : n2 ≤ 100000000) :
    Calls Try.prog 41 #[.pointer (some ⟨p, 0, none⟩), .slice A rs.length c, .slice A2 n2 c2] w fun e w' => e = .returned (.int .i64 (fitsM s (rs.map FlR.fl) b)) ∧ Gr w w' := by
  obtain ⟨l, hl0⟩ : ∃ l, l = rs.map FlR.fl := ⟨_, rfl⟩
  have hll : l.length = rs.length := by rw [hl0, List.length_map]
  have hsl := hs.sl (s' := s) (by omega) (Nat.le_refl _)
  have HU := Lib.hid (used_any h hsl.sm)
  have hub := used_small h.1 (show s.ops ≤ 1000000 by have := hs.ops; omega)
  unfold mostRoom at hub
  have hlb : ∀ f ∈ l, f.2.length ≤ 1000000 := fun f hf' => by
    rw [hl0] at hf'
    obtain ⟨g, hg, rfl⟩ := List.mem_map.1 hf'
    have h1 := hb g hg
    have h2 := (hf.ok g hg).1.len.out
    show g.q.b.length ≤ _
    omega
  have hroom := h.1.room
  unfold mostRoom at hroom
  have HN := Lib.hid (fun W (hg : Gr w W) => room_any (h.gr hg))
  have HD := Lib.hid (fun W (hg : Gr w W) => dead_any (h.gr hg))
  have HF := Lib.hid (show fitsM s (rs.map FlR.fl) b = if s.dead then 15 else if s.room < s.now.used + n2 + growF s.now l then 14 else 0 from by rw [← hn2, hl0]; rfl)
  rw [HF.out]
  clear HF
  generalize hn : rs.length = n at hl h1 hll ⊢
  obtain ⟨u, hu⟩ : ∃ u, u = s.now.used := ⟨_, rfl⟩
  rw [← hu] at HU hub ⊢
  clear hu
  cases hd : s.dead with
  | true =>
    rw [if_pos rfl]
    have HR := Lib.hid (fun W (hg : Gr w W) (m : Str) (hm : m.length ≤ maxLen) => show Calls Try.prog 44 #[.pointer (some ⟨p, 0, none⟩), encStr m] W fun e w' => ∃ A' m' c', e = .returned (.tuple #[.slice A' m' c', .bool false, .int .i64 15]) ∧ Gr W w' from by
      refine (read_any (h.gr hg) m hm).mono ?_
      rw [show s.read m = ([], false, 15) from by simp [V.read, hd]]
      rintro e w' ⟨A', m', c', rfl, _, _, hg⟩
      exact ⟨A', m', c', rfl, hg⟩)
    go_enter Try.func41, Try.ntmps41
    go_wp2_with (go_at_call 34; refine HU.out.mono ?_; rintro e w1 ⟨rfl, hg1⟩)
    go_loopw [20] (fun i wr => i = .int .i64 0 ∧ Gr w wr) (fun i _ => 0)
    case atStart => exact ⟨rfl, hg1⟩
    case round =>
      obtain ⟨rfl, hg⟩ := hrel
      obtain ⟨g, off, rfl, x0, x1⟩ := (hf.gr hg).at_ (i := 0) (by omega)
      have hnm := (hf.ok _ (List.getElem_mem (show 0 < rs.length by omega))).2.1
      simp only [Nat.zero_mul, Nat.add_zero] at x0 x1
      go_wp2_with (go_at_call 44; refine (HR.out _ (hg.trans' (Gr.alloc1 _ _)) _ hnm).mono ?_; rintro e w2 ⟨A', m, c', rfl, hg2⟩)
      go_ret
      exact ⟨rfl, (hg.trans' (Gr.alloc1 _ _)).trans' hg2⟩
  | false =>
    rw [if_neg Bool.false_ne_true]
    obtain ⟨F, hF⟩ : ∃ F, F = s.now := ⟨_, rfl⟩
    have HR := Lib.hid (fun W (hg : Gr w W) (m : Str) (hm : m.length ≤ maxLen) => show Calls Try.prog 44 #[.pointer (some ⟨p, 0, none⟩), encStr m] W fun e w' => ∃ A' c', e = .returned (.tuple #[.slice A' ((F.get m).getD []).length c', .bool (F.get m).isSome, .int .i64 0]) ∧ Gr W w' from by
      refine (read_any (h.gr hg) m hm).mono ?_
      rw [show s.read m = ((F.get m).getD [], (F.get m).isSome, 0) from by simp [V.read, hd, hF]]
      rintro e w' ⟨A', m', c', rfl, hm', _, hg⟩
      simp only at hm'
      rw [hm']
      exact ⟨A', c', rfl, hg⟩)
    have hFl : ∀ m, ((F.get m).getD []).length ≤ 1048576 := fun m => by rw [hF]; exact get_room h.1 m
    rw [← hF]
    rw [hd] at HD
    clear hF hd
    obtain ⟨res, hres⟩ : ∃ r, (if s.room < u + n2 + growF F l then (14 : Int) else 0) = r := ⟨_, rfl⟩
    rw [hres]
    have HRES := Lib.hid hres
    clear hres
    have hgl := fun j => growF_le (F := F) (l := l.take j) (fun f hf' => hlb f (List.mem_of_mem_take hf'))
    go_enter Try.func41, Try.ntmps41
    go_wp2_with (go_at_call 34; refine HU.out.mono ?_; rintro e w1 ⟨rfl, hg1⟩)
    go_loopw [7, 20] (fun t i wr => ∃ j : Nat, j ≤ n ∧ i = .int .i64 j ∧ t = .int .i64 ((u + n2 + growF F (l.take j) : Nat) : Int) ∧ Gr w wr) (fun _ i _ => n - (intOf i).toNat)
    case atStart => exact ⟨0, by omega, rfl, by simp [growF], hg1⟩
    case round =>
      obtain ⟨j, hj, rfl, rfl, hg⟩ := hrel
      by_cases hlt : j < n
      · have hjl : j < rs.length := by omega
        obtain ⟨g, off, rfl, x0, x1⟩ := (hf.gr hg).at_ hjl
        have hfk := hf.ok _ (List.getElem_mem hjl)
        have hnm := hfk.2.1
        have hqn := hb _ (List.getElem_mem hjl)
        have hqb := hfk.1.len.out
        have hlj : l[j]'(by omega) = rs[j].fl := by simp [hl0]
        have hgr := growF_take (F := F) (l := l) (j := j) (by omega)
        rw [hlj, show rs[j].fl.2.length = rs[j].q.n from hqb, show rs[j].fl.1 = rs[j].nm from rfl] at hgr
        have h7 := hFl rs[j].nm
        have h8 := hgl j
        have h9 : (l.take j).length ≤ 255 := by rw [List.length_take]; omega
        have h10 : growF F (l.take j) ≤ 255000000 := Nat.le_trans h8 (by omega)
        have hR2 := fun W hg => HR.out W hg rs[j].nm hnm
        generalize growF F (l.take j) = t at *
        obtain ⟨t2, hT0⟩ : ∃ t2, growF F (l.take (j + 1)) = t2 := ⟨_, rfl⟩
        rw [hT0] at hgr
        have hT2 := Lib.hid hT0
        clear hT0
        generalize ((F.get rs[j].nm).getD []).length = y at *
        have hgr := Lib.hid hgr
        have HR2 := Lib.hid hR2
        clear hR2 h8 h9 hlj hqb hfk
        generalize rs[j].q.n = x at *
        go_wp2_with (go_at_call 44; refine (HR2.out _ (hg.trans' (Gr.alloc1 _ _))).mono ?_; rintro e w2 ⟨A', c', rfl, hg2⟩; have y1 := hg2.cell (show (wr.alloc (.cells #[encStr rs[j].nm, .slice rs[j].q.A x rs[j].q.c] 31)).cell? ⟨wr.heap.size, 1, none⟩ = some (.slice rs[j].q.A x rs[j].q.c) from (Row.new wr 31 [encStr rs[j].nm, .slice rs[j].q.A x rs[j].q.c]).cell 1))
        go_roundw
        case rel => exact ⟨j + 1, by omega, by go_num, by rw [hT2.out]; have := hgr.out; congr 1; omega, (hg.trans' (Gr.alloc1 _ _)).trans' hg2⟩
        case measure => simp [intOf]; omega
      · obtain rfl : j = n := by omega
        have hgr := growF_le (F := F) hlb
        have e : l.take j = l := List.take_of_length_le (by omega)
        rw [e]
        have h10 : growF F l ≤ 255000000 := Nat.le_trans hgr (by omega)
        generalize growF F l = t at *
        by_cases hfit : s.room < u + n2 + t
        · go_wp2_with (first
            | (go_at_call 45; refine (HD.out _ hg).mono ?_; rintro e w2 ⟨rfl, rfl⟩)
            | (go_at_call 59; refine (HN.out _ hg).mono ?_; rintro e w3 ⟨rfl, rfl⟩))
          go_ret
          rw [← HRES.out, if_pos hfit]
          exact ⟨rfl, hg⟩
        · go_wp2_with (first
            | (go_at_call 45; refine (HD.out _ hg).mono ?_; rintro e w2 ⟨rfl, rfl⟩)
            | (go_at_call 59; refine (HN.out _ hg).mono ?_; rintro e w3 ⟨rfl, rfl⟩))
          go_ret
          rw [← HRES.out, if_neg hfit]
          exact ⟨rfl, hg⟩
end
end Go.Proofs.Ytcfbkhgdlgnmgaa
set_option linter.unusedVariables false
set_option linter.unusedSimpArgs false
set_option maxRecDepth 100000
namespace Go.Proofs.Ytcfbkhgdlgnmgaa
open Go.RowKit Go.Maps Go.Sort
attribute [local go_sem] Vc.known_tmp Vc.known_const Vc.known_func Vc.known_global Vc.lk Vc.okUpon Vc.Fact.holds
theorem thn_thn (r : V × Int) (f g : V → V × Int) : V.thn r (fun v => V.thn (f v) g) = V.thn (V.thn r f) g := by
  by_cases h : r.2 = 0
  · simp [V.thn, h]
  · simp [V.thn, h]
theorem awayM_thn (n : Str) : (fun v => awayM v n) = fun v => V.thn (v.remove n) V.flush := rfl
theorem putM_thn (n b : Str) : (fun v => putM v n b) = fun v => V.thn (v.write n b) V.flush := rfl
theorem writeM_five (v : V) (l : List Fl) : writeM v l = V.thn (V.thn (V.thn (V.thn (V.thn (writeAll v l) V.flush) (·.remove mk)) V.flush) (·.remove jn)) V.flush := by
  unfold writeM
  rw [awayM_thn, awayM_thn, thn_thn, thn_thn]
section
variable {X : Nat → Prop} {w W : World} {p : Nat} {s v v1 : V} {e1 : Int} {A : Option Addr} {l : List Fl}
theorem rd_flush (h : RAt W X p v) (hs : Sl v) (he : v.flush = (v1, e1)) :
    Calls Try.prog 56 #[.pointer (some ⟨p, 0, none⟩)] W fun e W' => e = .returned (.int .i64 e1) ∧ ∃ X', RAt W' X' p v1 ∧ Mv W X W' X' := by
  have := rflush_any h hs.sm ⟨by show v.ops + 1 ≤ _; have := hs.ops; omega, by show v.stop - 1 ≤ _; have := hs.stop; omega⟩
  rwa [he] at this
theorem rd_remove (h : RAt W X p v) (hs : Sl v) (n : Str) (hn : n.length ≤ 20) (he : v.remove n = (v1, e1)) :
    Calls Try.prog 62 #[.pointer (some ⟨p, 0, none⟩), encStr n] W fun e W' => e = .returned (.int .i64 e1) ∧ ∃ X', RAt W' X' p v1 ∧ Mv W X W' X' := by
  have := rremove_any h hs.sm n (fun _ => hn)
  rwa [he] at this
theorem rd_write (h : RAt W X p v) (hs : Sl v) (n b : Str) (hb : b.length ≤ 1000000) (he : v.write n b = (v1, e1)) :
    Calls Try.prog 55 #[.pointer (some ⟨p, 0, none⟩), encStr n, encStr b] W fun e W' => e = .returned (.int .i64 e1) ∧ ∃ X', RAt W' X' p v1 ∧ Mv W X W' X' := by
  have := rwrite_any h hs.sm n b hb
  rwa [he] at this
theorem flush_pair {r : V × Int} (h : v.flush = r) : r.1.ops ≤ v.ops + 1 ∧ r.1.stop ≤ v.stop := by rw [← h]; exact ⟨flush_ops v, flush_stop v⟩
theorem remove_pair {r : V × Int} {n : Str} (h : v.remove n = r) : r.1.ops ≤ v.ops + 1 ∧ r.1.stop ≤ v.stop := by rw [← h]; exact ⟨remove_ops v n, remove_stop v n⟩
theorem write_pair {r : V × Int} {n b : Str} (h : v.write n b = r) : r.1.ops ≤ v.ops + 1 ∧ r.1.stop ≤ v.stop := by rw [← h]; exact ⟨write_ops v n b, write_stop v n b⟩
set_option maxHeartbeats 8000000 in
theorem rdone_any (h : RAt w X p s) (hs : Sc s) (hf : Rd w A (l.flatMap frC)) (hz : 0 < l.length → ∀ ad, A = some ad → ¬ X ad.block) (c : Nat) (hl : l.length ≤ 255) (hb : ∀ f ∈ l, f.1.length ≤ maxLen ∧ f.2.length ≤ 1000000) :
    Calls Try.prog 57 #[.pointer (some ⟨p, 0, none⟩), .slice A l.length c] w fun e w' => e = .returned (.int .i64 (writeM s l).2) ∧ ∃ X', RAt w' X' p (writeM s l).1 ∧ Mv w X w' X' := by
  rw [writeM_five]
  obtain ⟨n, hn⟩ : ∃ n, l.length = n := ⟨_, rfl⟩
  rw [hn] at hl hz ⊢
  obtain ⟨R, hR⟩ : ∃ R, R = writeAll s l := ⟨_, rfl⟩
  rw [← hR]
  have HR := Lib.hid hR
  have hfz := Lib.hid (fun W' X' (hm : Mv w X W' X') => show Rd W' A (l.flatMap frC) from hm.tr.rd' hf (fun h0 => hz (by rw [frC_len] at h0; omega)))
  clear hR hf hz
  go_enter Try.func57, Try.ntmps57
  go_wp2_with fail
  go_loopw [5] (fun i wr => ∃ j : Nat, j ≤ n ∧ i = .int .i64 j ∧ ∃ X1 v, Hid (RAt wr X1 p v) ∧ Hid (R = writeAll v (l.drop j)) ∧ Hid (Mv w X wr X1) ∧ Hid (v.ops ≤ s.ops + j ∧ v.stop ≤ s.stop)) (fun i _ => n - (intOf i).toNat)
  case atStart => exact ⟨0, by omega, rfl, X, s, Lib.hid h, Lib.hid (by rw [HR.out]; rfl), Lib.hid (Mv.rfl' _ _), Lib.hid ⟨by omega, by omega⟩⟩
  case round =>
    obtain ⟨j, hj, rfl, X1, v, hat, hR, hmv, hov⟩ := hrel
    by_cases hlt : j < n
    · have hjl : j < l.length := by omega
      obtain ⟨g, off, rfl, x0, x1⟩ := frC_at (hfz.out _ _ hmv.out) hjl
      obtain ⟨hnm, hqn⟩ := hb _ (List.getElem_mem hjl)
      have hR1 : R = if (v.write l[j].1 l[j].2).2 ≠ 0 then v.write l[j].1 l[j].2 else writeAll (v.write l[j].1 l[j].2).1 (l.drop (j + 1)) := by
        rw [hR.out, List.drop_eq_getElem_cons hjl]
        rfl
      obtain ⟨r, hr⟩ : ∃ r, v.write l[j].1 l[j].2 = r := ⟨_, rfl⟩
      have hov1 := write_pair hr
      rw [hr] at hR1
      obtain ⟨v1, e1⟩ := r
      simp only at hR1 hov1
      have hsl := hs.sl (s' := v) (by have := hov.out.1; omega) hov.out.2
      have HW := Lib.hid (fun W (hg : Gr wr W) => rd_write (hat.out.gr hg) hsl l[j].1 l[j].2 hqn hr)
      have hov3 := Lib.hid (show v1.ops ≤ s.ops + (j + 1) ∧ v1.stop ≤ s.stop from ⟨by have := hov.out.1; omega, Nat.le_trans hov1.2 hov.out.2⟩)
      clear hov1 hov hsl hnm hqn hR hat hr
      generalize l[j].1 = nm at *
      generalize l[j].2 = qb at *
      go_wp2_with fail
      refine Vc.wp_region_split ⟨Gr, fun _ => Gr, fun _ W => Gr wr W, []⟩ 11 [] (by kernel_rfl) (by kernel_rfl) (by kernel_rfl) (by decide) (by simp) (by simp) (by simp) (fun _ _ h => h.size) (fun _ _ _ h => h.size) (fun _ _ _ h h' => h'.trans' h) (Gr.draw _) ?_
      repeat
        refine Vc.Walk.pure (v := ?_) (fun _ => Gr.rfl' _) rfl (by first | exact Vc.GuardYes.no rfl | exact Vc.GuardYes.yes rfl rfl) rfl rfl ?_ ?_
        rotate_left
        · intro _ W hI
          (have y0 := hI.g.cell x0; have y1 := hI.g.cell x1; clear hI)
          go_simp
          exact rfl
      intro W' hW
      have hW : Gr wr W' := hW
      simp only [List.reverse_cons, List.reverse_nil, List.nil_append, List.cons_append, Vc.finish, Act.put, List.setIfInBounds_toArray, List.set_cons_zero, List.set_cons_succ]
      intro _
      simp only [List.drop_succ_cons, List.drop_zero]
      clear x0 x1
      by_cases he : e1 = 0
      · subst he
        rw [if_neg (by simp)] at hR1
        replace hR1 := Lib.hid hR1
        go_wp2_with (go_at_call 55; refine (HW.out _ hW).mono ?_; rintro e w2 ⟨rfl, X2, ha, hm⟩)
        go_roundw
        case rel => exact ⟨j + 1, by omega, by go_num, X2, v1, Lib.hid ha, hR1, Lib.hid (hmv.out.trans ((Mv.of_gr hW _).trans hm)), hov3⟩
        case measure => simp [intOf]; omega
      · rw [if_pos he] at hR1
        have he2 : (e1 == 0) = false := by simpa using he
        have he3 : (e1 != 0) = true := by simpa using he
        have HE := Lib.hid (show V.thn (V.thn (V.thn (V.thn (V.thn R V.flush) (·.remove mk)) V.flush) (·.remove jn)) V.flush = (v1, e1) from by rw [hR1, thn_bad (r := (v1, e1)) he, thn_bad (r := (v1, e1)) he, thn_bad (r := (v1, e1)) he, thn_bad (r := (v1, e1)) he, thn_bad (r := (v1, e1)) he])
        clear hR1
        go_wp2_with (go_at_call 55; refine (HW.out _ hW).mono ?_; rintro e w2 ⟨rfl, X2, ha, hm⟩)
        go_ret
        rw [HE.out]
        exact ⟨rfl, X2, ha, hmv.out.trans ((Mv.of_gr hW _).trans hm)⟩
    · obtain rfl : j = n := by omega
      have hR1 : R = (v, 0) := by rw [hR.out, List.drop_of_length_le (by omega)]; rfl
      have hE : V.thn (V.thn (V.thn (V.thn (V.thn R V.flush) (·.remove mk)) V.flush) (·.remove jn)) V.flush = V.thn (V.thn (V.thn (V.thn v.flush (·.remove mk)) V.flush) (·.remove jn)) V.flush := by rw [hR1, thn_ok (r := (v, 0)) rfl]
      have hv0 := Lib.hid (show v.ops ≤ s.ops + 255 + 0 ∧ v.stop ≤ s.stop from ⟨by have := hov.out.1; omega, hov.out.2⟩)
      clear hov hR hR1 HR
      obtain ⟨r, hr⟩ : ∃ r, v.flush = r := ⟨_, rfl⟩
      obtain ⟨v1, e1⟩ := r
      have ho := flush_pair hr
      simp only at ho
      have hv1 := Lib.hid (show v1.ops ≤ s.ops + 255 + 1 ∧ v1.stop ≤ s.stop from ⟨by have := hv0.out.1; omega, Nat.le_trans ho.2 hv0.out.2⟩)
      have HS1 := Lib.hid (fun W X (ha : RAt W X p v) => rd_flush ha (hs.sl (by have := hv0.out.1; omega) hv0.out.2) hr)
      rw [hr] at hE
      clear hr ho
      by_cases he : e1 = 0
      · subst he
        obtain ⟨r, hr⟩ : ∃ r, v1.remove mk = r := ⟨_, rfl⟩
        obtain ⟨v2, e2⟩ := r
        have ho := remove_pair hr
        simp only at ho
        have hv2 := Lib.hid (show v2.ops ≤ s.ops + 255 + 2 ∧ v2.stop ≤ s.stop from ⟨by have := hv1.out.1; omega, Nat.le_trans ho.2 hv1.out.2⟩)
        have HS2 := Lib.hid (fun W X (ha : RAt W X p v1) => rd_remove ha (hs.sl (by have := hv1.out.1; omega) hv1.out.2) mk (by decide) hr)
        rw [thn_ok (r := (v1, 0)) rfl, show V.remove (v1, (0 : Int)).1 mk = _ from hr] at hE
        clear hr ho
        by_cases he : e2 = 0
        · subst he
          obtain ⟨r, hr⟩ : ∃ r, v2.flush = r := ⟨_, rfl⟩
          obtain ⟨v3, e3⟩ := r
          have ho := flush_pair hr
          simp only at ho
          have hv3 := Lib.hid (show v3.ops ≤ s.ops + 255 + 3 ∧ v3.stop ≤ s.stop from ⟨by have := hv2.out.1; omega, Nat.le_trans ho.2 hv2.out.2⟩)
          have HS3 := Lib.hid (fun W X (ha : RAt W X p v2) => rd_flush ha (hs.sl (by have := hv2.out.1; omega) hv2.out.2) hr)
          rw [thn_ok (r := (v2, 0)) rfl, show V.flush (v2, (0 : Int)).1 = _ from hr] at hE
          clear hr ho
          by_cases he : e3 = 0
          · subst he
            obtain ⟨r, hr⟩ : ∃ r, v3.remove jn = r := ⟨_, rfl⟩
            obtain ⟨v4, e4⟩ := r
            have ho := remove_pair hr
            simp only at ho
            have hv4 := Lib.hid (show v4.ops ≤ s.ops + 255 + 4 ∧ v4.stop ≤ s.stop from ⟨by have := hv3.out.1; omega, Nat.le_trans ho.2 hv3.out.2⟩)
            have HS4 := Lib.hid (fun W X (ha : RAt W X p v3) => rd_remove ha (hs.sl (by have := hv3.out.1; omega) hv3.out.2) jn (by decide) hr)
            rw [thn_ok (r := (v3, 0)) rfl, show V.remove (v3, (0 : Int)).1 jn = _ from hr] at hE
            clear hr ho
            by_cases he : e4 = 0
            · subst he
              obtain ⟨r, hr⟩ : ∃ r, v4.flush = r := ⟨_, rfl⟩
              obtain ⟨v5, e5⟩ := r
              have ho := flush_pair hr
              simp only at ho
              have hv5 := Lib.hid (show v5.ops ≤ s.ops + 255 + 5 ∧ v5.stop ≤ s.stop from ⟨by have := hv4.out.1; omega, Nat.le_trans ho.2 hv4.out.2⟩)
              have HS5 := Lib.hid (fun W X (ha : RAt W X p v4) => rd_flush ha (hs.sl (by have := hv4.out.1; omega) hv4.out.2) hr)
              rw [thn_ok (r := (v4, 0)) rfl, show V.flush (v4, (0 : Int)).1 = _ from hr] at hE
              clear hr ho
              have HE := Lib.hid hE
              clear hE
              go_wp2_with (first
                | (go_at_call 56; refine (HS5.out _ _ hq4.out.1).mono ?_; rintro e w6 ⟨rfl, X6, ha, hm⟩; have hq5 := Lib.hid (And.intro ha hm); clear ha hm)
                | (go_at_call 56; refine (HS3.out _ _ hq2.out.1).mono ?_; rintro e w4 ⟨rfl, X4, ha, hm⟩; have hq3 := Lib.hid (And.intro ha hm); clear ha hm)
                | (go_at_call 56; refine (HS1.out _ _ hat.out).mono ?_; rintro e w2 ⟨rfl, X2, ha, hm⟩; have hq1 := Lib.hid (And.intro ha hm); clear ha hm)
                | (go_at_call 62; refine (HS4.out _ _ hq3.out.1).mono ?_; rintro e w5 ⟨rfl, X5, ha, hm⟩; have hq4 := Lib.hid (And.intro ha hm); clear ha hm)
                | (go_at_call 62; refine (HS2.out _ _ hq1.out.1).mono ?_; rintro e w3 ⟨rfl, X3, ha, hm⟩; have hq2 := Lib.hid (And.intro ha hm); clear ha hm))
              go_ret
              rw [HE.out]
              exact ⟨rfl, X6, hq5.out.1, (((((hmv.out.trans hq1.out.2).trans hq2.out.2).trans hq3.out.2).trans hq4.out.2).trans hq5.out.2)⟩
            · rw [thn_bad (r := (v4, e4)) he] at hE
              have HE := Lib.hid hE
              have he2 : (e4 == 0) = false := by simpa using he
              have he3 : (e4 != 0) = true := by simpa using he
              clear hE
              go_wp2_with (first
                | (go_at_call 56; refine (HS3.out _ _ hq2.out.1).mono ?_; rintro e w4 ⟨rfl, X4, ha, hm⟩; have hq3 := Lib.hid (And.intro ha hm); clear ha hm)
                | (go_at_call 56; refine (HS1.out _ _ hat.out).mono ?_; rintro e w2 ⟨rfl, X2, ha, hm⟩; have hq1 := Lib.hid (And.intro ha hm); clear ha hm)
                | (go_at_call 62; refine (HS4.out _ _ hq3.out.1).mono ?_; rintro e w5 ⟨rfl, X5, ha, hm⟩; have hq4 := Lib.hid (And.intro ha hm); clear ha hm)
                | (go_at_call 62; refine (HS2.out _ _ hq1.out.1).mono ?_; rintro e w3 ⟨rfl, X3, ha, hm⟩; have hq2 := Lib.hid (And.intro ha hm); clear ha hm))
              go_ret
              rw [HE.out]
              exact ⟨rfl, X5, hq4.out.1, ((((hmv.out.trans hq1.out.2).trans hq2.out.2).trans hq3.out.2).trans hq4.out.2)⟩
          · rw [thn_bad (r := (v3, e3)) he, thn_bad (r := (v3, e3)) he] at hE
            have HE := Lib.hid hE
            have he2 : (e3 == 0) = false := by simpa using he
            have he3 : (e3 != 0) = true := by simpa using he
            clear hE
            go_wp2_with (first
              | (go_at_call 56; refine (HS3.out _ _ hq2.out.1).mono ?_; rintro e w4 ⟨rfl, X4, ha, hm⟩; have hq3 := Lib.hid (And.intro ha hm); clear ha hm)
              | (go_at_call 56; refine (HS1.out _ _ hat.out).mono ?_; rintro e w2 ⟨rfl, X2, ha, hm⟩; have hq1 := Lib.hid (And.intro ha hm); clear ha hm)
              | (go_at_call 62; refine (HS2.out _ _ hq1.out.1).mono ?_; rintro e w3 ⟨rfl, X3, ha, hm⟩; have hq2 := Lib.hid (And.intro ha hm); clear ha hm))
            go_ret
            rw [HE.out]
            exact ⟨rfl, X4, hq3.out.1, (((hmv.out.trans hq1.out.2).trans hq2.out.2).trans hq3.out.2)⟩
        · rw [thn_bad (r := (v2, e2)) he, thn_bad (r := (v2, e2)) he, thn_bad (r := (v2, e2)) he] at hE
          have HE := Lib.hid hE
          have he2 : (e2 == 0) = false := by simpa using he
          have he3 : (e2 != 0) = true := by simpa using he
          clear hE
          go_wp2_with (first
            | (go_at_call 56; refine (HS1.out _ _ hat.out).mono ?_; rintro e w2 ⟨rfl, X2, ha, hm⟩; have hq1 := Lib.hid (And.intro ha hm); clear ha hm)
            | (go_at_call 62; refine (HS2.out _ _ hq1.out.1).mono ?_; rintro e w3 ⟨rfl, X3, ha, hm⟩; have hq2 := Lib.hid (And.intro ha hm); clear ha hm))
          go_ret
          rw [HE.out]
          exact ⟨rfl, X3, hq2.out.1, ((hmv.out.trans hq1.out.2).trans hq2.out.2)⟩
      · rw [thn_bad (r := (v1, e1)) he, thn_bad (r := (v1, e1)) he, thn_bad (r := (v1, e1)) he, thn_bad (r := (v1, e1)) he] at hE
        have HE := Lib.hid hE
        have he2 : (e1 == 0) = false := by simpa using he
        have he3 : (e1 != 0) = true := by simpa using he
        clear hE
        go_wp2_with (first
          | (go_at_call 56; refine (HS1.out _ _ hat.out).mono ?_; rintro e w2 ⟨rfl, X2, ha, hm⟩; have hq1 := Lib.hid (And.intro ha hm); clear ha hm))
        go_ret
        rw [HE.out]
        exact ⟨rfl, X2, hq1.out.1, (hmv.out.trans hq1.out.2)⟩
end
end Go.Proofs.Ytcfbkhgdlgnmgaa
set_option linter.unusedVariables false
set_option linter.unusedSimpArgs false
set_option maxRecDepth 100000
namespace Go.Proofs.Ytcfbkhgdlgnmgaa
open Go.RowKit Go.Maps Go.Sort
section
variable {X Z : Nat → Prop} {w w' : World} {p : Nat} {s : V} {A : Option Addr} {rs : List FlR}
structure Sd (s : V) : Prop where
  ops : s.ops ≤ 700000
  stop : s.stop ≤ 700000
theorem Sd.sc (h : Sd s) {s' : V} (h1 : s'.ops ≤ s.ops + 10000) (h2 : s'.stop ≤ s.stop) : Sc s' := ⟨by have := h.ops; omega, by have := h.stop; omega⟩
theorem bytesM_le (l : List Fl) (h : l.length ≤ 255) : (bytesM l).length ≤ 40000000 := by
  have := bytesTo_le l.length l
  rw [bytesTo_all] at this
  omega
theorem flat_le : ∀ (l : List Fl), (∀ f ∈ l, f.1.length ≤ 20 ∧ f.2.length ≤ 8000) → (l.flatMap fun f => textB f.1 ++ textB f.2).length ≤ l.length * 8024
  | [], _ => by simp
  | f :: l, h => by
    have h1 := flat_le l (fun g hg => h g (by simp [hg]))
    have h2 := h f (by simp)
    rw [List.flatMap_cons, List.length_append, List.length_append, textB_length (by omega), textB_length (by omega), List.length_cons]
    omega
theorem bytesM_small {l : List Fl} (h : mayM l = 0) : (bytesM l).length ≤ 100000 := by
  obtain ⟨h1, h2, h3⟩ := mayM_zero h
  have := flat_le l (fun f hf => ⟨(nameBad_len (mayGo_zero h3 f hf).1).2.1, (mayGo_zero h3 f hf).2⟩)
  unfold bytesM
  rw [List.length_cons]
  omega
theorem lot_kept (hz : ∀ i, Z i → ¬ X i ∧ i < w.heap.size) {w1 : World} {X1 : Nat → Prop} (hm : Mv w X w1 X1) : ∀ i, Z i → ¬ X1 i ∧ i < w1.heap.size := fun i hi => by
  have h1 := hz i hi
  refine ⟨fun hx => ?_, ?_⟩
  · rcases hm.new i hx with h2 | h2
    · exact h1.1 h2
    · omega
  · have := hm.tr.size
    omega
set_option maxHeartbeats 4000000 in
theorem commit_any (h : At w X p s) (hs0 : Sd s) (hf : FlS w Z A rs) (hz : ∀ i, Z i → ¬ X i ∧ i < w.heap.size) (c : Nat) (hl : rs.length ≤ 255) (hc : rs.length ≤ c) (hb : ∀ f ∈ rs, f.q.n ≤ 1000000) :
    Calls Try.prog 19 #[.pointer (some ⟨p, 0, none⟩), .slice A rs.length c] w fun e w' => e = .returned (.int .i64 (commitM s (rs.map FlR.fl)).2) ∧ ∃ X', At w' X' p (commitM s (rs.map FlR.fl)).1 ∧ Mv w X w' X' := by
  have hs := hs0.sc (s' := s) (by omega) (Nat.le_refl _)
  have HB := Lib.hid (bytes_any hf c hl hb)
  have HM := Lib.hid (fun W (hg : Gr w W) => may_any (hf.gr hg) c hl hc hb)
  have HFi := Lib.hid (fun (h1 : 1 ≤ rs.length) W (hg : Gr w W) A2 n2 c2 b hn2 hl2 => fits_any (h.gr hg) hs (hf.gr hg) c hl h1 hb A2 n2 c2 b hn2 hl2)
  have HPj := Lib.hid (fun W (hg : Gr w W) A2 n2 c2 b hn2 hr hl2 => put_any (h.gr hg) (hs.sl (s' := s) (by omega) (Nat.le_refl _)) jn (by decide) A2 n2 c2 b hn2 hr hl2)
  have HPm := Lib.hid (fun W X1 v (ha : At W X1 p v) (ho : v.ops ≤ s.ops + 2) (hp : v.stop ≤ s.stop) => put_any ha (hs.sl (s' := v) (by omega) hp) mk (by decide) none 0 0 [] (Lib.hid rfl) (Rd.nil _ _) (by omega))
  have HW := Lib.hid (fun W X1 v (ha : At W X1 p v) (hm : Mv w X W X1) (ho : Sc v) => cwrite_any ha ho (hf.tr hm.tr (fun i hi => (hz i hi).1)) (lot_kept hz hm) c hl hb)
  obtain ⟨l, hl0⟩ : ∃ l, l = rs.map FlR.fl := ⟨_, rfl⟩
  rw [← hl0] at HB HM HFi HW ⊢
  have hll : l.length ≤ 255 := by rw [hl0, List.length_map]; exact hl
  have hLEN : l.length = rs.length := by rw [hl0, List.length_map]
  clear hl0
  obtain ⟨R, hR⟩ : ∃ R, R = commitM s l := ⟨_, rfl⟩
  rw [← hR]
  have hbl := bytesM_le l hll
  have HRs := Lib.hid hR
  clear hR
  go_enter Try.func19, Try.ntmps19
  go_wp2_with fail
  refine wp_scope_jumps 0 (fun a W => ∃ u0 u1 u2 u3 u4 u5 u7 u8 u9 u10 u11 u12 u13 u14 u15 u16 u17 u18 u19 u20 u21 u22 u23 u24 u25 u26 u27 u28 u29 u30 u31 : Value, a = { tmps := #[u0, u1, u2, u3, u4, u5, .int .i64 R.2, u7, u8, u9, u10, u11, u12, u13, u14, u15, u16, u17, u18, u19, u20, u21, u22, u23, u24, u25, u26, u27, u28, u29, u30, u31], defers := [] } ∧ ∃ X', At W X' p R.1 ∧ Mv w X W X') (fun _ _ => 0) rfl ?_ ?_
  · obtain ⟨m, hm⟩ : ∃ m, m = mayM l := ⟨_, rfl⟩
    rw [← hm] at HM
    by_cases hm0 : m = 0
    · subst hm0
      have hbs := bytesM_small hm.symm
      have hn1 : 1 ≤ rs.length := by have := (mayM_zero hm.symm).1; omega
      have HFi2 := Lib.hid (HFi.out hn1)
      obtain ⟨m2, hm2⟩ : ∃ m2, m2 = fitsM s l (bytesM l) := ⟨_, rfl⟩
      have HFi3 := Lib.hid (fun W (hg : Gr w W) A2 n2 c2 (hn2 : (bytesM l).length = n2) hl2 => hm2 ▸ HFi2.out W hg A2 n2 c2 (bytesM l) hn2 hl2)
      clear HFi HFi2
      by_cases hm20 : m2 = 0
      · subst hm20
        have hR3 : R = V.thn (V.thn (putM s jn (bytesM l)) (putM · mk [])) (writeM · l) := by rw [HRs.out]; unfold commitM; rw [if_neg (by simp [hm.symm]), if_neg (by simp [hm2.symm])]
        have hop := putM_ops s jn (bytesM l)
        have HPj2 := Lib.hid (fun W (hg : Gr w W) A2 n2 c2 hn2 hr hl2 => HPj.out W hg A2 n2 c2 (bytesM l) hn2 hr hl2)
        clear HPj hm hm2
        generalize putM s jn (bytesM l) = r at hR3 hop HPj2
        obtain ⟨v1, e1⟩ := r
        simp only at hop HPj2
        have hop := Lib.hid hop
        by_cases he1 : e1 = 0
        · subst he1
          rw [thn_ok (r := (v1, 0)) rfl] at hR3
          have hop2 := putM_ops v1 mk []
          have HPm2 := Lib.hid (fun W X1 (ha : At W X1 p v1) => HPm.out W X1 v1 ha hop.out.1 hop.out.2)
          clear HPm
          simp only at hR3
          generalize putM v1 mk [] = r2 at hR3 hop2 HPm2
          obtain ⟨v2, e2⟩ := r2
          simp only at hop2 HPm2
          have hop2 := Lib.hid hop2
          by_cases he2 : e2 = 0
          · subst he2
            rw [thn_ok (r := (v2, 0)) rfl] at hR3
            have HRR := Lib.hid hR3
            clear hR3
            have HWv := Lib.hid (fun W X1 (ha : At W X1 p v2) (hm : Mv w X W X1) => HW.out W X1 v2 ha hm (hs0.sc (by have := hop.out.1; have := hop2.out.1; omega) (Nat.le_trans hop2.out.2 hop.out.2)))
            clear HW
            simp only at HRR
            rw [← HRR.out] at HWv
            go_wp2_with (first
              | (go_at_call 39; refine HB.out.mono ?_; rintro e w1 ⟨vb, rfl, ⟨A1, n1, c1, rfl, hn1, hr1⟩, hg1⟩)
              | (go_at_call 40; refine (HM.out _ hg1).mono ?_; rintro e w2 ⟨rfl, hg2⟩)
              | (go_at_call 41; refine (HFi3.out _ (hg1.trans' hg2) A1 n1 c1 hn1.out (by have := hn1.out; omega)).mono ?_; rintro e w3 ⟨rfl, hg3⟩)
              | (go_at_call 42; refine (HPm2.out _ _ hq4.out.1).mono ?_; rintro e w5 ⟨rfl, X5, ha5, hm5⟩; have hq5 := Lib.hid (And.intro ha5 hm5); clear ha5 hm5)
              | (go_at_call 42; refine (HPj2.out _ ((hg1.trans' hg2).trans' hg3) A1 n1 c1 hn1 ((hr1.gr hg2).gr hg3) (by have := hn1.out; omega)).mono ?_; rintro e w4 ⟨rfl, X4, ha4, hm4⟩; have hq4 := Lib.hid (And.intro ha4 hm4); clear ha4 hm4)
              | (go_at_call 43; refine (HWv.out _ _ hq5.out.1 (((Mv.of_gr ((hg1.trans' hg2).trans' hg3) X).trans hq4.out.2).trans hq5.out.2)).mono ?_; rintro e w6 ⟨rfl, X6, ha6, hm6⟩; have hq6 := Lib.hid (And.intro ha6 hm6); clear ha6 hm6))
            go_step3
            go_wp2
            try simp only [Exit.jump]
            go_ret
            exact ⟨rfl, X6, hq6.out.1, (((Mv.of_gr ((hg1.trans' hg2).trans' hg3) X).trans hq4.out.2).trans hq5.out.2).trans hq6.out.2⟩
          · have HRR := Lib.hid (show R = (v2, e2) by rw [hR3, thn_bad (r := (v2, e2)) he2])
            clear hR3
            have hbn2 : (e2 != 0) = true := by simpa using he2
            go_wp2_with (first
              | (go_at_call 39; refine HB.out.mono ?_; rintro e w1 ⟨vb, rfl, ⟨A1, n1, c1, rfl, hn1, hr1⟩, hg1⟩)
              | (go_at_call 40; refine (HM.out _ hg1).mono ?_; rintro e w2 ⟨rfl, hg2⟩)
              | (go_at_call 41; refine (HFi3.out _ (hg1.trans' hg2) A1 n1 c1 hn1.out (by have := hn1.out; omega)).mono ?_; rintro e w3 ⟨rfl, hg3⟩)
              | (go_at_call 42; refine (HPm2.out _ _ hq4.out.1).mono ?_; rintro e w5 ⟨rfl, X5, ha5, hm5⟩; have hq5 := Lib.hid (And.intro ha5 hm5); clear ha5 hm5)
              | (go_at_call 42; refine (HPj2.out _ ((hg1.trans' hg2).trans' hg3) A1 n1 c1 hn1 ((hr1.gr hg2).gr hg3) (by have := hn1.out; omega)).mono ?_; rintro e w4 ⟨rfl, X4, ha4, hm4⟩; have hq4 := Lib.hid (And.intro ha4 hm4); clear ha4 hm4))
            try go_step3
            exact ⟨rfl, _, _, _, _, _, _, _, _, _, _, _, _, _, _, _, _, _, _, _, _, _, _, _, _, _, _, _, _, _, _, _, (by rw [HRR.out]), X5, (by rw [HRR.out]; exact hq5.out.1), ((Mv.of_gr ((hg1.trans' hg2).trans' hg3) X).trans hq4.out.2).trans hq5.out.2⟩
        · have HRR := Lib.hid (show R = (v1, e1) by rw [hR3, thn_bad (r := (v1, e1)) he1, thn_bad (r := (v1, e1)) he1])
          clear hR3
          have hbn2 : (e1 != 0) = true := by simpa using he1
          go_wp2_with (first
            | (go_at_call 39; refine HB.out.mono ?_; rintro e w1 ⟨vb, rfl, ⟨A1, n1, c1, rfl, hn1, hr1⟩, hg1⟩)
            | (go_at_call 40; refine (HM.out _ hg1).mono ?_; rintro e w2 ⟨rfl, hg2⟩)
            | (go_at_call 41; refine (HFi3.out _ (hg1.trans' hg2) A1 n1 c1 hn1.out (by have := hn1.out; omega)).mono ?_; rintro e w3 ⟨rfl, hg3⟩)
            | (go_at_call 42; refine (HPj2.out _ ((hg1.trans' hg2).trans' hg3) A1 n1 c1 hn1 ((hr1.gr hg2).gr hg3) (by have := hn1.out; omega)).mono ?_; rintro e w4 ⟨rfl, X4, ha4, hm4⟩; have hq4 := Lib.hid (And.intro ha4 hm4); clear ha4 hm4))
          try go_step3
          exact ⟨rfl, _, _, _, _, _, _, _, _, _, _, _, _, _, _, _, _, _, _, _, _, _, _, _, _, _, _, _, _, _, _, _, (by rw [HRR.out]), X4, (by rw [HRR.out]; exact hq4.out.1), (Mv.of_gr ((hg1.trans' hg2).trans' hg3) X).trans hq4.out.2⟩
      · have HRR := Lib.hid (show R = (s, m2) by rw [HRs.out, hm2]; unfold commitM; rw [if_neg (by simp [hm.symm]), if_pos (by rw [← hm2]; exact hm20)])
        have hbn2 : (m2 != 0) = true := by simpa using hm20
        clear hm hm2
        go_wp2_with (first
          | (go_at_call 39; refine HB.out.mono ?_; rintro e w1 ⟨vb, rfl, ⟨A1, n1, c1, rfl, hn1, hr1⟩, hg1⟩)
          | (go_at_call 40; refine (HM.out _ hg1).mono ?_; rintro e w2 ⟨rfl, hg2⟩)
          | (go_at_call 41; refine (HFi3.out _ (hg1.trans' hg2) A1 n1 c1 hn1.out (by have := hn1.out; omega)).mono ?_; rintro e w3 ⟨rfl, hg3⟩))
        try go_step3
        exact ⟨rfl, _, _, _, _, _, _, _, _, _, _, _, _, _, _, _, _, _, _, _, _, _, _, _, _, _, _, _, _, _, _, _, (by rw [HRR.out]), X, (by rw [HRR.out]; exact h.gr ((hg1.trans' hg2).trans' hg3)), Mv.of_gr ((hg1.trans' hg2).trans' hg3) X⟩
    · have HRR := Lib.hid (show R = (s, m) by rw [HRs.out, hm]; unfold commitM; rw [if_pos (by rw [← hm]; exact hm0)])
      have hbn2 : (m != 0) = true := by simpa using hm0
      clear hm
      go_wp2_with (first
        | (go_at_call 39; refine HB.out.mono ?_; rintro e w1 ⟨vb, rfl, ⟨A1, n1, c1, rfl, hn1, hr1⟩, hg1⟩)
        | (go_at_call 40; refine (HM.out _ hg1).mono ?_; rintro e w2 ⟨rfl, hg2⟩))
      try go_step3
      exact ⟨rfl, _, _, _, _, _, _, _, _, _, _, _, _, _, _, _, _, _, _, _, _, _, _, _, _, _, _, _, _, _, _, _, (by rw [HRR.out]), X, (by rw [HRR.out]; exact h.gr (hg1.trans' hg2)), Mv.of_gr (hg1.trans' hg2) X⟩
  · rintro a W ⟨u0, u1, u2, u3, u4, u5, u7, u8, u9, u10, u11, u12, u13, u14, u15, u16, u17, u18, u19, u20, u21, u22, u23, u24, u25, u26, u27, u28, u29, u30, u31, rfl, X', ha, hm⟩
    go_wp2
    simp only [Exit.jump]
    go_ret
    exact ⟨rfl, X', ha, hm⟩
end
end Go.Proofs.Ytcfbkhgdlgnmgaa
set_option linter.unusedVariables false
set_option linter.unusedSimpArgs false
set_option maxRecDepth 100000
namespace Go.Proofs.Ytcfbkhgdlgnmgaa
open Go.RowKit Go.Maps Go.Sort
attribute [local go_sem] Vc.known_tmp Vc.known_const Vc.known_func Vc.known_global Vc.lk Vc.okUpon Vc.Fact.holds
theorem commitM_five {s : V} {l : List Fl} (h1 : mayM l = 0) (h2 : fitsM s l (bytesM l) = 0) : commitM s l = V.thn (V.thn (V.thn (V.thn (s.write jn (bytesM l)) V.flush) (·.write mk [])) V.flush) (writeM · l) := by
  unfold commitM
  rw [if_neg (by simp [h1]), if_neg (by simp [h2]), putM_thn, thn_thn]
  rfl
section
variable {X : Nat → Prop} {w W : World} {p : Nat} {s v v1 : V} {e1 : Int} {A : Option Addr} {l : List Fl}
theorem rd_read (h : RAt W X p s) (hs : Sm s) (hd : s.dead = false) (n : Str) :
    Calls Try.prog 54 #[.pointer (some ⟨p, 0, none⟩), encStr n] W fun e W' => e = .returned (.tuple #[encStr ((s.now.get n).getD []), .bool (s.now.get n).isSome, .int .i64 0]) ∧ Gr W W' := by
  have := rread_any h hs n
  rwa [show s.read n = ((s.now.get n).getD [], (s.now.get n).isSome, 0) from by simp [V.read, hd]] at this
theorem RAt.off (h : RAt W X p s) : W.cell? ⟨p, 4, none⟩ = some (.bool s.dead) := by
  obtain ⟨_, _, _, _, _, _, h⟩ := h
  exact h.cells.2.2.2.2.1
theorem RAt.size (h : RAt W X p s) : W.cell? ⟨p, 2, none⟩ = some (.int .i64 s.room) := by
  obtain ⟨_, _, _, _, _, _, h⟩ := h
  exact h.cells.2.2.1
set_option maxHeartbeats 8000000 in
theorem rcommit_any (h : RAt w X p s) (hs0 : Sd s) (hf : Rd w A (l.flatMap frC)) (hz : 0 < l.length → ∀ ad, A = some ad → ¬ X ad.block) (c : Nat) (hl : l.length ≤ 255) (hb : ∀ f ∈ l, f.1.length ≤ maxLen ∧ f.2.length ≤ 1000000) :
    Calls Try.prog 29 #[.pointer (some ⟨p, 0, none⟩), .slice A l.length c] w fun e w' => e = .returned (.int .i64 (commitM s l).2) ∧ ∃ X', RAt w' X' p (commitM s l).1 ∧ Mv w X w' X' := by
  have hs := hs0.sc (s' := s) (by omega) (Nat.le_refl _)
  have hsm := (hs.sl (s' := s) (by omega) (Nat.le_refl _)).sm
  have hbm : ∀ f ∈ l, f.1.length ≤ maxLen ∧ f.2.length ≤ maxLen := fun f hf => ⟨(hb f hf).1, by have := (hb f hf).2; unfold maxLen; omega⟩
  have HFi := Lib.hid (rfits_any hf c hl hbm)
  have HB := Lib.hid (rbytes_any hf c hl hbm)
  have HU := Lib.hid (fun W (hg : Gr w W) => rused2_any (h.gr hg) hsm)
  have hub := used_small h.1 (show s.ops ≤ 1000000 by have := hs.ops; omega)
  have hroom := h.1.room
  unfold mostRoom at hub hroom
  have HD := Lib.hid (fun W X1 v (ha : RAt W X1 p v) (hm : Mv w X W X1) (ho : Sc v) => rdone_any ha ho (hm.tr.rd' hf (fun h0 => hz (by rw [frC_len] at h0; omega))) (fun h0 ad e => show ¬ X1 ad.block from fun hx => by
    rcases hm.new _ hx with h1 | h1
    · exact hz h0 ad e h1
    · have := rd_lt hf (by rw [frC_len]; omega) ad e
      omega) c hl hb)
  have hfz := Lib.hid (fun W' (hg : Gr w W') => hf.gr hg)
  have hoff := h.off
  have hlb : ∀ f ∈ l, f.2.length ≤ 1000000 := fun f hf' => (hb f hf').2
  have hbl := bytesM_le l hl
  obtain ⟨R, hR⟩ : ∃ R, R = commitM s l := ⟨_, rfl⟩
  rw [← hR]
  obtain ⟨n, hn⟩ : ∃ n, l.length = n := ⟨_, rfl⟩
  rw [hn] at HFi HB HD hl ⊢
  clear hf hz
  by_cases hm0 : mayM l = 0
  · rw [hm0] at HFi
    cases hd : s.dead with
    | true =>
      rw [hd] at hoff
      have HR := Lib.hid (show R = (s, 15) from by
        rw [hR]
        have hf15 : fitsM s l (bytesM l) = 15 := by unfold fitsM; rw [hd, if_pos rfl]
        unfold commitM
        rw [if_neg (by simp [hm0]), if_pos (by rw [hf15]; decide), hf15])
      clear hR HU HD HB hfz hbl hm0
      go_enter Try.func29, Try.ntmps29
      go_wp2_with (go_at_call 52; refine HFi.out.mono ?_; rintro e w1 ⟨rfl, hw1⟩; subst hw1)
      go_ret
      rw [HR.out]
      exact ⟨rfl, X, h, Mv.rfl' _ _⟩
    | false =>
      rw [hd] at hoff
      have hbs := bytesM_small hm0
      have hsz := h.size
      have HRd := Lib.hid (fun W (hg : Gr w W) m => rd_read (h.gr hg) hsm hd m)
      have hFl : ∀ m, ((s.now.get m).getD []).length ≤ 1048576 := fun m => get_room h.1 m
      obtain ⟨F, hF⟩ : ∃ F, F = s.now := ⟨_, rfl⟩
      rw [← hF] at HU hub HRd hFl
      have hfit : fitsM s l (bytesM l) = if s.room < F.used + (bytesM l).length + growF F l then 14 else 0 := by
        unfold fitsM
        rw [hd, if_neg Bool.false_ne_true, hF]
        rfl
      obtain ⟨u, hu⟩ : ∃ u, F.used = u := ⟨_, rfl⟩
      obtain ⟨B, hB⟩ : ∃ B, bytesM l = B := ⟨_, rfl⟩
      obtain ⟨nb, hnb⟩ : ∃ nb, B.length = nb := ⟨_, rfl⟩
      have hnb' : (⟨B.toArray⟩ : ByteArray).size = nb := by simp [ByteArray.size, hnb]
      rw [hu] at HU hub hfit
      rw [hB] at HB hfit hbs hbl
      rw [hnb] at hfit hbs hbl
      have hgl := fun j => growF_le (F := F) (l := l.take j) (fun f hf' => hlb f (List.mem_of_mem_take hf'))
      have hRfull := Lib.hid (fun (hx : s.room < u + nb + growF F l) => show R = (s, 14) from by
        rw [hR]
        unfold commitM
        rw [hB, hfit, if_neg (by simp [hm0]), if_pos hx]
        rfl)
      have hRok := Lib.hid (fun (hx : ¬ s.room < u + nb + growF F l) => show R = V.thn (V.thn (V.thn (V.thn (s.write jn B) V.flush) (·.write mk [])) V.flush) (writeM · l) from by
        rw [hR, commitM_five hm0 (by rw [hB, hfit, if_neg hx]), hB])
      have hat := Lib.hid h
      replace hnb := Lib.hid hnb
      clear hR hfit hm0 hu hF hB hd h
      go_enter Try.func29, Try.ntmps29
      go_wp2_with (first
        | (go_at_call 52; refine HFi.out.mono ?_; rintro e w1 ⟨rfl, hw1⟩; subst hw1)
        | (go_at_call 13; refine HB.out.mono ?_; rintro e w2 ⟨rfl, hg2⟩; replace hg2 := Lib.hid hg2)
        | (go_at_call 53; refine (HU.out _ hg2.out).mono ?_; rintro e w3 ⟨rfl, hg3⟩; have hg3' := Lib.hid (hg2.out.trans' hg3); clear hg3))
      go_loopw [7, 8] (fun t i wr => ∃ j : Nat, j ≤ n ∧ i = .int .i64 j ∧ t = .int .i64 ((u + nb + growF F (l.take j) : Nat) : Int) ∧ Hid (Gr w wr)) (fun _ i _ => n - (intOf i).toNat)
      case atStart => exact ⟨0, by omega, rfl, by simp [growF], hg3'⟩
      case round =>
        obtain ⟨j, hj, rfl, ht, hg⟩ := hrel
        by_cases hlt : j < n
        · have hjl : j < l.length := by omega
          obtain ⟨g, off, rfl, x0, x1⟩ := frC_at (hfz.out _ hg.out) hjl
          obtain ⟨hnm, hqn⟩ := hb _ (List.getElem_mem hjl)
          have hgr := growF_take (F := F) (l := l) (j := j) hjl
          have h7 := hFl l[j].1
          have h8 := hgl j
          have h9 : (l.take j).length ≤ 255 := by rw [List.length_take]; omega
          have h10 : growF F (l.take j) ≤ 255000000 := Nat.le_trans h8 (by omega)
          have HR2 := Lib.hid (HRd.out _ hg.out l[j].1)
          obtain ⟨t0, ht0⟩ : ∃ t0, growF F (l.take j) = t0 := ⟨_, rfl⟩
          rw [ht0] at ht hgr h10
          obtain ⟨t2, hT0⟩ : ∃ t2, growF F (l.take (j + 1)) = t2 := ⟨_, rfl⟩
          rw [hT0] at hgr
          have hT2 := Lib.hid hT0
          subst ht
          obtain ⟨ob, hob⟩ : ∃ ob, (F.get l[j].1).getD [] = ob := ⟨_, rfl⟩
          rw [hob] at hgr h7 HR2
          generalize l[j].1 = nm at *
          generalize l[j].2 = qb at *
          have hsz1 : (⟨qb.toArray⟩ : ByteArray).size = qb.length := by simp [ByteArray.size]
          have hsz2 : (⟨ob.toArray⟩ : ByteArray).size = ob.length := by simp [ByteArray.size]
          replace hgr := Lib.hid hgr
          clear h8 h9 hnm hT0 ht0 hob
          go_wp2_with (go_at_call 54; refine HR2.out.mono ?_; rintro e w4 ⟨rfl, hg4⟩; have y1 := hg4.cell x1; have hg5 := Lib.hid (hg.out.trans' hg4))
          go_roundw
          case rel => exact ⟨j + 1, by omega, by go_num, by rw [hT2.out]; have := hgr.out; congr 1; omega, hg5⟩
          case measure => simp [intOf]; omega
        · obtain rfl : j = n := by omega
          rw [List.take_of_length_le (by omega)] at ht
          have hgr := growF_le (F := F) hlb
          have h10 : growF F l ≤ 255000000 := Nat.le_trans hgr (by omega)
          obtain ⟨t0, ht0⟩ : ∃ t0, growF F l = t0 := ⟨_, rfl⟩
          rw [ht0] at ht h10 hRfull hRok
          subst ht
          have z2 := hg.out.cell hsz
          have hat' := Lib.hid (hat.out.gr hg.out)
          clear hgr ht0 HRd hgl hFl hbm hlb hsz hoff
          by_cases hfull : s.room < u + nb + t0
          · have HR := Lib.hid (hRfull.out hfull)
            have hfi : (s.room : Int) < (u : Int) + nb + t0 := by omega
            clear hRfull hRok
            go_wp2
            go_ret
            rw [HR.out]
            exact ⟨rfl, X, hat'.out, Mv.of_gr hg.out X⟩
          · have hE := hRok.out hfull
            have hfi : ¬ (s.room : Int) < (u : Int) + nb + t0 := by omega
            have hv0 := Lib.hid (show s.ops ≤ s.ops + 0 ∧ s.stop ≤ s.stop from ⟨by omega, by omega⟩)
            have hbn := Lib.hid (show B.length ≤ 1000000 from by rw [hnb.out]; omega)
            have hm0 := Lib.hid (Mv.of_gr hg.out X)
            clear hRfull hRok
            obtain ⟨r, hr⟩ : ∃ r, s.write jn B = r := ⟨_, rfl⟩
            obtain ⟨v1, e1⟩ := r
            have ho := write_pair hr
            simp only at ho
            have hv1 := Lib.hid (show v1.ops ≤ s.ops + 1 ∧ v1.stop ≤ s.stop from ⟨by have := hv0.out.1; omega, Nat.le_trans ho.2 hv0.out.2⟩)
            have HS1 := Lib.hid (fun W X (ha : RAt W X p s) => rd_write ha (hs.sl (by have := hv0.out.1; omega) hv0.out.2) jn B hbn.out hr)
            rw [hr] at hE
            clear hr ho
            by_cases he : e1 = 0
            · subst he
              obtain ⟨r, hr⟩ : ∃ r, v1.flush = r := ⟨_, rfl⟩
              obtain ⟨v2, e2⟩ := r
              have ho := flush_pair hr
              simp only at ho
              have hv2 := Lib.hid (show v2.ops ≤ s.ops + 2 ∧ v2.stop ≤ s.stop from ⟨by have := hv1.out.1; omega, Nat.le_trans ho.2 hv1.out.2⟩)
              have HS2 := Lib.hid (fun W X (ha : RAt W X p v1) => rd_flush ha (hs.sl (by have := hv1.out.1; omega) hv1.out.2) hr)
              rw [thn_ok (r := (v1, 0)) rfl, show V.flush (v1, (0 : Int)).1 = _ from hr] at hE
              clear hr ho
              by_cases he : e2 = 0
              · subst he
                obtain ⟨r, hr⟩ : ∃ r, v2.write mk [] = r := ⟨_, rfl⟩
                obtain ⟨v3, e3⟩ := r
                have ho := write_pair hr
                simp only at ho
                have hv3 := Lib.hid (show v3.ops ≤ s.ops + 3 ∧ v3.stop ≤ s.stop from ⟨by have := hv2.out.1; omega, Nat.le_trans ho.2 hv2.out.2⟩)
                have HS3 := Lib.hid (fun W X (ha : RAt W X p v2) => rd_write ha (hs.sl (by have := hv2.out.1; omega) hv2.out.2) mk [] (by decide) hr)
                rw [thn_ok (r := (v2, 0)) rfl, show V.write (v2, (0 : Int)).1 mk [] = _ from hr] at hE
                clear hr ho
                by_cases he : e3 = 0
                · subst he
                  obtain ⟨r, hr⟩ : ∃ r, v3.flush = r := ⟨_, rfl⟩
                  obtain ⟨v4, e4⟩ := r
                  have ho := flush_pair hr
                  simp only at ho
                  have hv4 := Lib.hid (show v4.ops ≤ s.ops + 4 ∧ v4.stop ≤ s.stop from ⟨by have := hv3.out.1; omega, Nat.le_trans ho.2 hv3.out.2⟩)
                  have HS4 := Lib.hid (fun W X (ha : RAt W X p v3) => rd_flush ha (hs.sl (by have := hv3.out.1; omega) hv3.out.2) hr)
                  rw [thn_ok (r := (v3, 0)) rfl, show V.flush (v3, (0 : Int)).1 = _ from hr] at hE
                  clear hr ho
                  by_cases he : e4 = 0
                  · subst he
                    rw [thn_ok (r := (v4, 0)) rfl] at hE
                    replace hE : R = writeM v4 l := hE
                    have HS5 := Lib.hid (fun W X1 (ha : RAt W X1 p v4) (hm : Mv w X W X1) => HD.out W X1 v4 ha hm (hs0.sc (by have := hv4.out.1; omega) hv4.out.2))
                    rw [← hE] at HS5
                    have HE := Lib.hid (show R = R from rfl)
                    clear hE HD
                    go_wp2_with (first
                      | (go_at_call 57; refine (HS5.out _ _ hq4.out.1 hq4.out.2).mono ?_; rintro e w6 ⟨rfl, X6, ha, hm⟩; have hq5 := Lib.hid (And.intro ha (hq4.out.2.trans hm)); clear ha hm)
                      | (go_at_call 55; refine (HS3.out _ _ hq2.out.1).mono ?_; rintro e w4 ⟨rfl, X4, ha, hm⟩; have hq3 := Lib.hid (And.intro ha (hq2.out.2.trans hm)); clear ha hm)
                      | (go_at_call 55; refine (HS1.out _ _ hat'.out).mono ?_; rintro e w2 ⟨rfl, X2, ha, hm⟩; have hq1 := Lib.hid (And.intro ha (hm0.out.trans hm)); clear ha hm)
                      | (go_at_call 56; refine (HS4.out _ _ hq3.out.1).mono ?_; rintro e w5 ⟨rfl, X5, ha, hm⟩; have hq4 := Lib.hid (And.intro ha (hq3.out.2.trans hm)); clear ha hm)
                      | (go_at_call 56; refine (HS2.out _ _ hq1.out.1).mono ?_; rintro e w3 ⟨rfl, X3, ha, hm⟩; have hq2 := Lib.hid (And.intro ha (hq1.out.2.trans hm)); clear ha hm))
                    go_ret
                    exact ⟨rfl, X6, hq5.out.1, hq5.out.2⟩
                  · rw [thn_bad (r := (v4, e4)) he] at hE
                    have HE := Lib.hid hE
                    have he2 : (e4 == 0) = false := by simpa using he
                    have he3 : (e4 != 0) = true := by simpa using he
                    clear hE
                    go_wp2_with (first
                      | (go_at_call 55; refine (HS3.out _ _ hq2.out.1).mono ?_; rintro e w4 ⟨rfl, X4, ha, hm⟩; have hq3 := Lib.hid (And.intro ha (hq2.out.2.trans hm)); clear ha hm)
                      | (go_at_call 55; refine (HS1.out _ _ hat'.out).mono ?_; rintro e w2 ⟨rfl, X2, ha, hm⟩; have hq1 := Lib.hid (And.intro ha (hm0.out.trans hm)); clear ha hm)
                      | (go_at_call 56; refine (HS4.out _ _ hq3.out.1).mono ?_; rintro e w5 ⟨rfl, X5, ha, hm⟩; have hq4 := Lib.hid (And.intro ha (hq3.out.2.trans hm)); clear ha hm)
                      | (go_at_call 56; refine (HS2.out _ _ hq1.out.1).mono ?_; rintro e w3 ⟨rfl, X3, ha, hm⟩; have hq2 := Lib.hid (And.intro ha (hq1.out.2.trans hm)); clear ha hm))
                    go_ret
                    rw [HE.out]
                    exact ⟨rfl, X5, hq4.out.1, hq4.out.2⟩
                · rw [thn_bad (r := (v3, e3)) he, thn_bad (r := (v3, e3)) he] at hE
                  have HE := Lib.hid hE
                  have he2 : (e3 == 0) = false := by simpa using he
                  have he3 : (e3 != 0) = true := by simpa using he
                  clear hE
                  go_wp2_with (first
                    | (go_at_call 55; refine (HS3.out _ _ hq2.out.1).mono ?_; rintro e w4 ⟨rfl, X4, ha, hm⟩; have hq3 := Lib.hid (And.intro ha (hq2.out.2.trans hm)); clear ha hm)
                    | (go_at_call 55; refine (HS1.out _ _ hat'.out).mono ?_; rintro e w2 ⟨rfl, X2, ha, hm⟩; have hq1 := Lib.hid (And.intro ha (hm0.out.trans hm)); clear ha hm)
                    | (go_at_call 56; refine (HS2.out _ _ hq1.out.1).mono ?_; rintro e w3 ⟨rfl, X3, ha, hm⟩; have hq2 := Lib.hid (And.intro ha (hq1.out.2.trans hm)); clear ha hm))
                  go_ret
                  rw [HE.out]
                  exact ⟨rfl, X4, hq3.out.1, hq3.out.2⟩
              · rw [thn_bad (r := (v2, e2)) he, thn_bad (r := (v2, e2)) he, thn_bad (r := (v2, e2)) he] at hE
                have HE := Lib.hid hE
                have he2 : (e2 == 0) = false := by simpa using he
                have he3 : (e2 != 0) = true := by simpa using he
                clear hE
                go_wp2_with (first
                  | (go_at_call 55; refine (HS1.out _ _ hat'.out).mono ?_; rintro e w2 ⟨rfl, X2, ha, hm⟩; have hq1 := Lib.hid (And.intro ha (hm0.out.trans hm)); clear ha hm)
                  | (go_at_call 56; refine (HS2.out _ _ hq1.out.1).mono ?_; rintro e w3 ⟨rfl, X3, ha, hm⟩; have hq2 := Lib.hid (And.intro ha (hq1.out.2.trans hm)); clear ha hm))
                go_ret
                rw [HE.out]
                exact ⟨rfl, X3, hq2.out.1, hq2.out.2⟩
            · rw [thn_bad (r := (v1, e1)) he, thn_bad (r := (v1, e1)) he, thn_bad (r := (v1, e1)) he, thn_bad (r := (v1, e1)) he] at hE
              have HE := Lib.hid hE
              have he2 : (e1 == 0) = false := by simpa using he
              have he3 : (e1 != 0) = true := by simpa using he
              clear hE
              go_wp2_with (first
                | (go_at_call 55; refine (HS1.out _ _ hat'.out).mono ?_; rintro e w2 ⟨rfl, X2, ha, hm⟩; have hq1 := Lib.hid (And.intro ha (hm0.out.trans hm)); clear ha hm))
              go_ret
              rw [HE.out]
              exact ⟨rfl, X2, hq1.out.1, hq1.out.2⟩
  · have hbn2 : (mayM l != 0) = true := by simpa using hm0
    have hbn3 : (mayM l == 0) = false := by simpa using hm0
    have HR := Lib.hid (show R = (s, mayM l) from by rw [hR]; unfold commitM; rw [if_pos hm0])
    obtain ⟨m, hm⟩ : ∃ m, mayM l = m := ⟨_, rfl⟩
    rw [hm] at HFi HR hbn2 hbn3
    clear hR hm hm0
    go_enter Try.func29, Try.ntmps29
    go_wp2_with (go_at_call 52; refine HFi.out.mono ?_; rintro e w1 ⟨rfl, hw1⟩; subst hw1)
    go_ret
    rw [HR.out]
    exact ⟨rfl, X, h, Mv.rfl' _ _⟩
end
end Go.Proofs.Ytcfbkhgdlgnmgaa
set_option linter.unusedVariables false
set_option maxRecDepth 100000
set_option linter.unusedSimpArgs false
namespace Go.Proofs.Ytcfbkhgdlgnmgaa.Cd
open Go.RowKit
def RefAt (w : World) (g : Nat) (s : Rs) : Prop :=
  ∃ A c, ∃ (L : List UInt8) (p : Nat), Row w g 119 [.slice A L.length c, .int .i64 p, .int .i64 s.2] ∧ Rd w A (L.map bv) ∧ p ≤ L.length ∧ s.1 = L.drop p ∧ L.length ≤ c ∧ (c ≤ 9223372036854775807 ∧ L.length ≤ 140737488351232) ∧ ∀ ad, A = some ad → ad.block < g
theorem xNew_any (A : Option Addr) (n c : Nat) (bs : List UInt8) (w : World) (hn : Hid (bs.length = n)) (hx : Rd w A (bs.map bv)) (hl : n ≤ c) (hc : c ≤ 9223372036854775807 ∧ n ≤ 140737488351232) (hb0 : ∀ ad, A = some ad → ad.block < w.heap.size) :
    Calls Try.prog 79 #[.slice A n c] w fun e w' => ∃ g, e = .returned (.pointer (some ⟨g, 0, none⟩)) ∧ w.heap.size ≤ g ∧ RefAt w' g (bs, 0) ∧ Gr w w' := by
  go_enter Try.func79, Try.ntmps79
  go_wp2
  go_ret
  obtain rfl := hn.out
  exact ⟨w.heap.size, rfl, Nat.le_refl _, ⟨A, c, bs, 0, Row.new w _ _, hx.gr (Gr.alloc1 _ _), Nat.zero_le _, rfl, hl, hc, hb0⟩, Gr.alloc1 _ _⟩
theorem ref_cells (A : Option Addr) (n c : Nat) (p e : Int) : ∀ x ∈ [Value.slice A n c, .int .i64 p, .int .i64 e], ∀ b, bv b ≠ x := by
  intro x hx b
  simp only [List.mem_cons, List.not_mem_nil, or_false] at hx
  rcases hx with rfl | rfl | rfl
  · exact bv_ne_slice _ _ _ _
  · exact bv_ne_int _ _
  · exact bv_ne_int _ _
def RefOut (w : World) (g : Nat) (o : List UInt8 × Rs) (e : Ending) (w' : World) : Prop :=
  ∃ A n c, e = .returned (.slice A n c) ∧ Hid (o.1.length = n) ∧ Rd w' A (o.1.map bv) ∧ RefAt w' g o.2 ∧ w.grownBy w' (some g)
theorem xtake_any (g : Nat) (s : Rs) (k : Nat) (w : World) (hs : RefAt w g s) (hk : k ≤ 140737488351232) :
    Calls Try.prog 90 #[.pointer (some ⟨g, 0, none⟩), .int .i64 k] w (RefOut w g (takeS s k)) := by
  obtain ⟨bs, er⟩ := s
  have hs' := hs
  obtain ⟨A, c, L, p, hr, hd, hp, hbs, hlc, hcm⟩ := hs'
  simp only at hr hbs
  have c0 : w.cell? ⟨g, 0, none⟩ = some (.slice A L.length c) := by rw [hr.cell]; rfl
  have c1 : w.cell? ⟨g, 1, none⟩ = some (.int .i64 p) := by rw [hr.cell]; rfl
  have c2 : w.cell? ⟨g, 2, none⟩ = some (.int .i64 er) := by rw [hr.cell]; rfl
  have f1 := hr.frozen 1
  have f2 := hr.frozen 2
  have hbl : bs.length = L.length - p := by rw [hbs]; simp
  by_cases he : er = 0
  · subst he
    by_cases hn : k ≤ bs.length
    · rw [takeS_some hn]
      have ht : decide ((L.length : Int) - p < k) = false := by simp; omega
      have hle : p + k ≤ L.length := by omega
      have HB := Lib.hid hbl
      have HS := Lib.hid hbs
      clear hbl hbs
      go_enter Try.func90, Try.ntmps90
      go_wp2_with fail
      go_quiet (fail)
      go_wp2_with fail
      have ho := only_set (w.drewN nq) g 1 (.int .i64 ((p : Int) + k))
      have hr1 := (hr.drewN nq).set 1 (.int .i64 ((p : Int) + k))
      have hd1 := (hd.drewN nq).keep (hr.drewN nq) (ref_cells _ _ _ _ _) ho
      generalize (w.drewN nq).setCell ⟨g, 1, none⟩ (.int .i64 ((p : Int) + k)) = w1 at *
      have d0 : w1.cell? ⟨g, 0, none⟩ = some (.slice A L.length c) := by rw [hr1.cell]; rfl
      have d1 : w1.cell? ⟨g, 1, none⟩ = some (.int .i64 ((p : Int) + k)) := by rw [hr1.cell]; rfl
      have j1 : (0 : Int) ≤ (p : Int) + k := by omega
      have hfin : RefAt w1 g (bs.drop k, 0) := ⟨A, c, L, p + k, by simpa using hr1, hd1, hle, by rw [HS.out]; simp, hlc, hcm⟩
      have hrd : bs.take k = (L.drop p).take k := by rw [HS.out]
      have hlk : (bs.take k).length = k := by simp [hn]
      have HR := Lib.hid hrd
      have HK := Lib.hid hlk
      have HO := Lib.hid (only_trans (only_of_gr (Gr.drawN w nq) _) ho)
      have HF := Lib.hid hfin
      have HD := Lib.hid hd1
      clear hrd hlk ho hr1 hfin hd1
      go_quiet (fail)
      go_wp2_with fail
      · go_ret
        have hcp : c = p := by assumption
        have hk0 : k = 0 := by omega
        have hb0 : bs.take k = [] := by rw [hk0]; rfl
        exact ⟨_, _, _, rfl, Lib.hid (by rw [hb0, hk0]; rfl), by rw [hb0]; exact Rd.nil _ _, by obtain ⟨A, c, L, p, h1, h2, h3⟩ := HF.out; exact ⟨A, c, L, p, h1.drewN _, h2.drewN _, h3⟩, only_trans HO.out (only_of_gr (Gr.drawN _ _) _)⟩
      · go_ret
        exact ⟨_, _, _, rfl, HK, by
          rw [HR.out, List.map_take, List.map_drop]
          exact ((HD.out.drewN _).drop p).take k, by obtain ⟨A, c, L, p, h1, h2, h3⟩ := HF.out; exact ⟨A, c, L, p, h1.drewN _, h2.drewN _, h3⟩, only_trans HO.out (only_of_gr (Gr.drawN _ _) _)⟩
    · rw [takeS_more hn]
      have ht : decide ((L.length : Int) - p < k) = true := by simp; omega
      have HB := Lib.hid hbl
      have HS := Lib.hid hbs
      clear hbl hbs
      go_enter Try.func90, Try.ntmps90
      go_wp2_with fail
      go_quiet (fail)
      go_wp2_with fail
      go_ret
      have ho := only_set (w.drewN nq) g 2 (.int .i64 8)
      have hr1 := (hr.drewN nq).set 2 (.int .i64 8)
      have hd1 := (hd.drewN nq).keep (hr.drewN nq) (ref_cells _ _ _ _ _) ho
      exact ⟨none, 0, 0, rfl, Lib.hid rfl, Rd.nil _ _, ⟨A, c, L, p, hr1, hd1, hp, HS.out, hlc, hcm⟩, only_trans (only_of_gr (Gr.drawN w nq) _) ho⟩
  · rw [takeS_err he]
    have hne : (er == 0) = false := by simp [he]
    have hne' : (er != 0) = true := by simp [he]
    have HB := Lib.hid hbl
    have HS := Lib.hid hbs
    clear hbl hbs
    go_enter Try.func90, Try.ntmps90
    go_wp2_with fail
    go_quiet (fail)
    go_wp2_with fail
    go_ret
    exact ⟨none, 0, 0, rfl, Lib.hid rfl, Rd.nil _ _, ⟨A, c, L, p, hr.drewN nq, hd.drewN nq, hp, HS.out, hlc, hcm⟩, only_of_gr (Gr.drawN w nq) _⟩
theorem RefAt.drewN {w : World} {g : Nat} {s : Rs} (h : RefAt w g s) (n : Nat) : RefAt (w.drewN n) g s := by
  obtain ⟨A, c, L, p, h1, h2, h3⟩ := h
  exact ⟨A, c, L, p, h1.drewN n, h2.drewN n, h3⟩
def RefNum (w : World) (g : Nat) (n : Int) (s : Rs) (e : Ending) (w' : World) : Prop := e = .returned (.int .i64 n) ∧ RefAt w' g s ∧ w.grownBy w' (some g)
def RefStr (w : World) (g : Nat) (o : List UInt8 × Rs) (e : Ending) (w' : World) : Prop := e = .returned (.string ⟨o.1.toArray⟩) ∧ RefAt w' g o.2 ∧ w.grownBy w' (some g)
theorem RefAt.apart {w : World} {g : Nat} {s : Rs} (h : RefAt w g s) {A : Option Addr} {bs : List UInt8} (hd : Rd w A (bs.map bv)) : RdN w g A (bs.map bv) := by
  obtain ⟨A', c, L, p, hr, _⟩ := h
  exact hd.apart hr (ref_cells _ _ _ _ _)
theorem two_of_len (l : List UInt8) (h : l.length = 2) : ∃ a b, l = [a, b] := by
  match l, h with
  | [a, b], _ => exact ⟨a, b, rfl⟩
theorem takeS_len (s : Rs) (k : Nat) : (takeS s k).1 = [] ∨ (takeS s k).1.length = k := by
  unfold takeS
  split
  · split
    · right; simp; omega
    · left; rfl
  · left; rfl
theorem xByte'_any (g : Nat) (s : Rs) (w : World) (hs : RefAt w g s) :
    Calls Try.prog 80 #[.pointer (some ⟨g, 0, none⟩)] w (RefNum w g (byteS s).1 (byteS s).2) := by
  have hl := takeS_len s 1
  have H := Lib.hid (xtake_any g s 1 w hs (by omega))
  unfold byteS
  generalize takeS s 1 = o at *
  obtain ⟨out, s'⟩ := o
  simp only at hl
  rcases hl with rfl | hl
  · go_enter Try.func80, Try.ntmps80
    go_wp2_with (go_at_call 90; refine H.out.mono ?_; rintro e w1 ⟨A, n, c, rfl, hn, hd, hr, ho⟩; obtain rfl := hn.out)
    go_ret
    exact ⟨rfl, hr, ho⟩
  · match out, hl with
    | [b], _ =>
      go_enter Try.func80, Try.ntmps80
      go_wp2_with (go_at_call 90; refine H.out.mono ?_; rintro e w1 ⟨A, n, c, rfl, hn, hd, hr, ho⟩; obtain rfl := hn.out; obtain ⟨ad, rfl, hc⟩ := hd.at_ (k := 0) (by simp); simp only [List.map_cons, List.getElem_cons_zero, bv] at hc; have hc0 : w1.cell? ad = some (.int .u8 b.toNat) := by simpa [Addr.add] using hc)
      go_ret
      exact ⟨by
        have hw : wrap64 (b.toNat : Int) = b.toNat := by have := b.toNat_lt; unfold wrap64; omega
        simp [num, hw], hr, ho⟩
attribute [local go_sem] Vc.known_tmp Vc.known_const Vc.known_func Vc.known_global Vc.lk Vc.okUpon Vc.Fact.holds
theorem xText'_any (g : Nat) (s : Rs) (w : World) (hs : RefAt w g s) :
    Calls Try.prog 81 #[.pointer (some ⟨g, 0, none⟩)] w (RefStr w g (textS s)) := by
  have hl := takeS_len s 2
  have hlt := num_small s 2 (by omega)
  have H := Lib.hid (show Calls Try.prog 90 #[.pointer (some ⟨g, 0, none⟩), .int .i64 2] w (RefOut w g (takeS s 2)) from xtake_any g s 2 w hs (by omega))
  have he : (takeS s 2).1 = [] → takeS (takeS s 2).2 0 = ([], (takeS s 2).2) := by
    intro _
    generalize (takeS s 2).2 = r
    obtain ⟨l, e⟩ := r
    unfold takeS
    by_cases h : e = 0
    · subst h; simp
    · simp [h]
  have H2 : ∀ W, RefAt W g (takeS s 2).2 → Calls Try.prog 90 #[.pointer (some ⟨g, 0, none⟩), .int .i64 (num (takeS s 2).1)] W (RefOut W g (textS s)) :=
    fun W h => xtake_any g _ _ W h (by omega)
  replace H2 := Lib.hid H2
  have ht : textS s = takeS (takeS s 2).2 (num (takeS s 2).1) := rfl
  have HT := Lib.hid ht
  clear ht
  generalize textS s = o2 at *
  generalize takeS s 2 = o at *
  obtain ⟨out, s'⟩ := o
  simp only at hl hlt he
  rcases hl with rfl | hl
  · have hx : o2 = ([], s') := by
      have h1 := HT.out
      simp only [num] at h1
      rw [h1]
      exact he rfl
    subst hx
    clear he
    go_enter Try.func81, Try.ntmps81
    go_wp2_with (go_at_call 90; refine H.out.mono ?_; rintro e w1 ⟨A, n, c, rfl, hn, hd, hr, ho⟩; obtain rfl := hn.out)
    go_ret
    exact ⟨rfl, hr, ho⟩
  · clear he
    obtain ⟨b0, b1, rfl⟩ := two_of_len out hl
    clear hl
    · 
      have hb0 := b0.toNat_lt
      have hb1 := b1.toNat_lt
      go_enter Try.func81, Try.ntmps81
      go_wp2_with (go_at_call 90; (with_reducible refine H.out.mono ?_); rintro e w1 ⟨A, n, c, rfl, hn, hd, hr, ho⟩; obtain rfl := hn.out; obtain ⟨ad, rfl, _⟩ := hd.at_ (k := 0) (by simp))
      have hcell : ∀ W, Rd W (some ad) ([b0, b1].map bv) → W.cell? ad = some (.int .u8 b0.toNat) ∧ W.cell? ⟨ad.block, ad.off + 1, none⟩ = some (.int .u8 b1.toNat) := by
        intro W h
        obtain ⟨a1, e1, h1⟩ := h.at_ (k := 0) (by simp)
        obtain ⟨a2, e2, h2⟩ := h.at_ (k := 1) (by simp)
        injection e1 with e1
        injection e2 with e2
        subst e1
        subst e2
        exact ⟨by simpa [Addr.add, bv] using h1, by simpa [bv, Addr.add] using h2⟩
      refine Vc.wp_region_facts ⟨fun w w' => w = w', fun _ w w' => w.grownBy w' (some g),
        fun k W => Rd W (some ad) ([b0, b1].map bv) ∧ w1.grownBy W (some g) ∧ (k = 0 → RefAt W g s') ∧ (k = 1 → RefAt W g o2.2), [11]⟩ (by kernel_rfl) (by kernel_rfl) ?_ ?_ ?_
      · rintro k W W' rfl h; exact h
      · exact ⟨hd, only_of_gr (Gr.draw _) _, fun _ => hr.drewN 1, fun h => by cases h⟩
      · repeat
          refine Vc.Walk.pure (v := ?_) (fun _ => rfl) rfl (.no rfl) rfl rfl ?_ ?_
          rotate_left
          · intro _ W hI
            obtain ⟨h1, _⟩ := hI.g
            obtain ⟨hc0, hc1⟩ := hcell W h1
            clear h1
            go_simp
            exact rfl
        refine Vc.Walk.call (.fits fun _ v W => ∃ A n c, v = .slice A n c ∧ Hid (o2.1.length = n) ∧ RdN W g A (o2.1.map bv)) ?_ (.no rfl) rfl rfl ?_ ?_
        · refine ⟨?_, ?_⟩
          · rintro _ v W W' _ rfl h
            exact h
          · rintro _ v W W' _ hR _ ⟨A2, n2, c2, rfl, hn2, hd2⟩
            exact ⟨A2, n2, c2, rfl, hn2, hd2.only hR⟩
        · intro k W hI
          obtain rfl := hI.eq 0 rfl
          obtain ⟨h1, h2, h3, _⟩ := hI.g
          clear hI
          have e1 : IntKind.i64.wrap (IntKind.i64.wrap (b0.toNat : Int) + IntKind.i64.wrap (256 * IntKind.i64.wrap (b1.toNat : Int))) = (num [b0, b1] : Int) := by
            simp only [IntKind.wrap_i64, num]
            omega
          go_simp
          refine (H2.out _ (h3 rfl)).mono ?_
          rintro e W' ⟨A2, n2, c2, rfl, hn2, hd2, hr2, ho2⟩
          exact ⟨_, rfl, ⟨A2, n2, ⟨c2, rfl⟩, hn2, hr2.apart hd2⟩, ho2, ((h3 rfl).apart h1 |>.only ho2).rd, only_trans h2 ho2, fun h => (by cases h), fun _ => hr2⟩
        refine Vc.Walk.any (.is (.string ⟨o2.1.toArray⟩)) trivial (.no rfl) ?_ ?_
        · intro ρ k W hI hf
          obtain ⟨⟨A2, n2, c2, hρ, hn2, hd2⟩, _⟩ := hf
          have hcv := run_str (P := Try.prog) hd2.rd 29 9 5 n2 c2 hn2.out.symm Try.underlying29 Try.underlying5 Try.underlying9
          have hI2 := Lib.hid hI
          clear hI
          go_simp
          exact (rfl : W = W)
        repeat
          refine Vc.Walk.pure (v := ?_) (fun _ => rfl) rfl (.no rfl) rfl rfl ?_ ?_
          rotate_left
          · intro _ W hI
            clear hI
            go_simp
            exact rfl
        intro W hG
        obtain ⟨_, hg1, _, hr2⟩ := hG
        have hr2 := hr2 rfl
        simp only [List.reverse_cons, List.reverse_nil, List.nil_append, List.cons_append, Vc.finish, Act.put]
        intro u _
        go_wp2_with fail
        go_ret
        exact ⟨rfl, hr2, only_trans ho hg1⟩
theorem xEnd_any (g : Nat) (s : Rs) (w : World) (hs : RefAt w g s) :
    Calls Try.prog 82 #[.pointer (some ⟨g, 0, none⟩)] w fun e w' => e = .returned (.int .i64 (endS s)) ∧ ∃ n, w' = w.drewN n := by
  obtain ⟨bs, er⟩ := s
  obtain ⟨A, c, L, p, hr, hd, hp, hbs, hlc, hcm⟩ := hs
  simp only at hr hbs
  have c0 : w.cell? ⟨g, 0, none⟩ = some (.slice A L.length c) := by rw [hr.cell]; rfl
  have c1 : w.cell? ⟨g, 1, none⟩ = some (.int .i64 p) := by rw [hr.cell]; rfl
  have c2 : w.cell? ⟨g, 2, none⟩ = some (.int .i64 er) := by rw [hr.cell]; rfl
  have hbl : bs.length = L.length - p := by rw [hbs]; simp
  have HS := Lib.hid hbs
  clear hbs
  unfold endS
  by_cases he : er = 0
  · subst he
    by_cases hn : 0 < bs.length
    · have ht : decide (p < L.length) = true := by simp; omega
      rw [if_pos ⟨rfl, hn⟩]
      have HB := Lib.hid hbl
      clear hbl
      go_enter Try.func82, Try.ntmps82
      go_wp2_with fail
      go_quiet (fail)
      go_wp2_with fail
      go_ret
      exact ⟨rfl, _, rfl⟩
    · have ht : decide (p < L.length) = false := by simp; omega
      rw [if_neg (fun h => hn h.2)]
      have HB := Lib.hid hbl
      clear hbl
      go_enter Try.func82, Try.ntmps82
      go_wp2_with fail
      go_quiet (fail)
      go_wp2_with fail
      go_ret
      exact ⟨rfl, _, rfl⟩
  · have hne : (er == 0) = false := by simp [he]
    rw [if_neg (fun h => he h.1)]
    have HB := Lib.hid hbl
    clear hbl
    go_enter Try.func82, Try.ntmps82
    go_wp2_with fail
    go_quiet (fail)
    go_wp2_with fail
    go_ret
    exact ⟨rfl, _, rfl⟩
end Go.Proofs.Ytcfbkhgdlgnmgaa.Cd
set_option linter.unusedVariables false
set_option linter.unusedSimpArgs false
set_option maxRecDepth 100000
namespace Go.Proofs.Ytcfbkhgdlgnmgaa
open Go.RowKit Go.Maps Go.Sort Cd
theorem Cd.RefAt.only {w w' : World} {g : Nat} {s : Rs} {row : Option Nat} (h : RefAt w g s) (ho : w.grownBy w' row) (hne : ∀ g', row = some g' → g < g') : RefAt w' g s := by
  obtain ⟨A, c, L, p, hr, hd, hp, hbs, hlc, hcm⟩ := h
  refine ⟨A, c, L, p, (ho.block g hr.lt (fun e => by have := hne g e.symm; omega)).trans hr, hd.grown ho (fun h0 ad e e2 => ?_), hp, hbs, hlc, hcm⟩
  have h1 := hcm.2 ad e
  have h2 := hne _ e2
  omega
theorem Cd.RefAt.gr {w w' : World} {g : Nat} {s : Rs} (h : RefAt w g s) (hg : Gr w w') : RefAt w' g s := h.only (only_of_gr hg none) (fun g' e => by cases e)
theorem textS_bad {s : Rs} (h : s.2 ≠ 0) : textS s = ([], s) := by
  unfold textS takeS
  simp [h]
theorem readGo_bad : ∀ (k : Nat) {s : Rs} (acc : List Fl), s.2 ≠ 0 → (readGo k s acc).2 = s
  | 0, _, _, _ => rfl
  | k + 1, s, acc, h => by
    rw [readGo, textS_bad h]
    simp only
    rw [textS_bad h]
    exact readGo_bad k _ h
theorem endS_bad {s : Rs} (h : s.2 ≠ 0) : endS s = s.2 := by
  unfold endS
  rw [if_neg (fun hh => h hh.1)]
theorem textS_le (s : Rs) : (textS s).1.length ≤ 65535 := by
  have h1 := num_small s 2 (by omega)
  have h2 := takeS_fst_le (takeS s 2).2 (num (takeS s 2).1)
  unfold textS
  omega
theorem byteS_le (s : Rs) : 0 ≤ (byteS s).1 ∧ (byteS s).1 ≤ 255 := by
  unfold byteS
  have h := num_lt (takeS s 1).1
  have h2 : 256 ^ (takeS s 1).1.length ≤ 256 ^ 1 := Nat.pow_le_pow_right (by omega) (takeS_fst_le s 1)
  simp only
  omega
theorem frC_app (l : List Fl) (f : Fl) : (l ++ [f]).flatMap frC = l.flatMap frC ++ [encStr f.1, encStr f.2] := by
  rw [List.flatMap_append]
  simp [frC]
theorem Rd.newAt {w : World} {n : Nat} (h : w.heap.size = n) (xs : List Value) (t : TypeId) : Rd (w.alloc (.cells xs.toArray t)) (some ⟨n, 0, none⟩) xs := h ▸ Rd.new w xs t
def ParseP (w : World) (b : Str) (e : Ending) (w' : World) : Prop :=
  ∃ A n c l, ∃ f : Bool, e = .returned (.tuple #[.slice A n c, .bool f]) ∧ Gr w w' ∧ l.length = n ∧ n ≤ 255 ∧ Rd w' A (l.flatMap frC) ∧ (∀ ad, A = some ad → w.heap.size ≤ ad.block) ∧ (∀ x ∈ l, x.1.length ≤ 65535 ∧ x.2.length ≤ 65535) ∧ (f = true → readM b = (l, 0)) ∧ (f = false → (readM b).2 = 10)
set_option maxHeartbeats 8000000 in
theorem parse_any (w : World) (b : Str) (hb : b.length ≤ 1048576) :
    Calls Try.prog 61 #[encStr b] w (ParseP w b) := by
  obtain ⟨i0, hi, hz0, hz1, hz2⟩ := info_parts info_rfile
  obtain ⟨c1, w1, hcv, hg1, hr1, hlc, hcm, hsz1⟩ := conv_new (P := Try.prog) w 9 29 5 b (by unfold maxLen; omega) Try.underlying9 Try.underlying29 Try.underlying5
  have HN := Lib.hid (xNew_any (some ⟨w.heap.size, 0, none⟩) b.length c1 b w1 (Lib.hid rfl) hr1 hlc ⟨by unfold maxLen at hcm; omega, by omega⟩ (fun ad e => by injection e with e; subst e; show w.heap.size < _; omega))
  obtain ⟨s0, hs0⟩ : ∃ s0, s0 = (byteS (b, 0)).2 := ⟨_, rfl⟩
  have hbl := byteS_le (b, 0)
  obtain ⟨N0, hN0⟩ : ∃ N0 : Nat, N0 = (byteS (b, 0)).1.toNat := ⟨_, rfl⟩
  have hN1 : (byteS (b, 0)).1 = (N0 : Int) := by omega
  have hNl : N0 ≤ 255 := by omega
  have HR := Lib.hid (show readM b = if endS (readGo N0 s0 []).2 ≠ 0 ∨ mayM (readGo N0 s0 []).1 ≠ 0 then ([], 10) else ((readGo N0 s0 []).1, 0) from by rw [hN0, hs0]; rfl)
  have HBy := Lib.hid (fun g W (hs : RefAt W g (b, 0)) => show Calls Try.prog 80 #[.pointer (some ⟨g, 0, none⟩)] W (RefNum W g (N0 : Int) s0) from by
    have := xByte'_any g (b, 0) W hs
    rwa [hN1, ← hs0] at this)
  have hg1 := Lib.hid hg1
  clear hr1 hlc hcm hbl hN0 hN1 hs0 hsz1
  go_enter Try.func61, Try.ntmps61
  go_wp2_with (first
    | (go_at_call 79; refine HN.out.mono ?_; rintro e w2 ⟨g, rfl, hgw, hr2, hg2⟩; have hgs := Lib.hid (show w.heap.size ≤ g from Nat.le_trans hg1.out.size hgw); replace hr2 := Lib.hid hr2; have hg3 := Lib.hid (hg1.out.trans' hg2); clear hgw hg2)
    | (go_at_call 80; refine (HBy.out _ _ hr2.out).mono ?_; rintro e w3 ⟨rfl, hr3, ho3⟩
       have hg4 := Lib.hid (Gr.grownBk hg3.out ho3 (fun g' e => by injection e with e; subst e; exact hgs.out))
       have hgl := Lib.hid (show g < w3.heap.size from by obtain ⟨A, c, L, p, hr, _⟩ := hr3; exact hr.lt)
       replace hr3 := Lib.hid hr3
       clear ho3 hr2 hg3 HN HBy))
  go_loopw [6, 7] (fun t i wr => ∃ j : Nat, j ≤ N0 ∧ i = .int .i64 j ∧ ∃ A1 c1 acc s1, t = .slice A1 j c1 ∧ Hid (Own wr w3.heap.size 62 2 A1 j c1 (acc.flatMap frC)) ∧ Hid (RefAt wr g s1) ∧ Hid (acc.length = j) ∧ Hid (readGo (N0 - j) s1 acc = readGo N0 s0 []) ∧ Hid (∀ x ∈ acc, x.1.length ≤ 65535 ∧ x.2.length ≤ 65535) ∧ Hid (Gr w wr) ∧ Hid (w3.heap.size ≤ wr.heap.size)) (fun _ i _ => N0 - (intOf i).toNat)
  case atStart => exact ⟨0, by omega, rfl, none, 0, [], s0, rfl, Lib.hid (Own.nil _ _ _ _), hr3, Lib.hid rfl, Lib.hid rfl, Lib.hid (fun x hx => by cases hx), hg4, Lib.hid (Nat.le_refl _)⟩
  case round =>
    obtain ⟨j, hj, rfl, A1, c2, acc, s1, rfl, hown, hrd, hal, hgo, hsm, hgr, hszr⟩ := hrel
    clear hr3 hg4
    have herr : wr.cell? ⟨g, 2, none⟩ = some (.int .i64 s1.2) := by obtain ⟨A, c, L, p, hr, _⟩ := hrd.out; exact hr.cell 2
    have hfin : s1.2 = 0 ∧ j < N0 ∨ ((j < N0 → s1.2 ≠ 0) ∧ (endS s1 = 0 → readGo N0 s0 [] = (acc, s1)) ∧ (endS s1 ≠ 0 → endS (readGo N0 s0 []).2 ≠ 0)) := by
      by_cases hlt : j < N0
      · by_cases he : s1.2 = 0
        · exact .inl ⟨he, hlt⟩
        · refine .inr ⟨fun _ => he, fun h => absurd (endS_bad he ▸ h) he, fun h => ?_⟩
          rw [← hgo.out, readGo_bad _ _ he]
          exact h
      · have : N0 - j = 0 := by omega
        rw [← hgo.out, this]
        exact .inr ⟨fun h => absurd h hlt, fun _ => rfl, fun h => h⟩
    rcases hfin with ⟨he, hlt⟩ | ⟨herr2, hfin⟩
    · rw [he] at herr
      have hgo2 : readGo (N0 - (j + 1)) (textS (textS s1).2).2 (acc ++ [((textS s1).1, (textS (textS s1).2).1)]) = readGo N0 s0 [] := by
        rw [← hgo.out, show N0 - j = (N0 - (j + 1)) + 1 by omega]
        rfl
      have hT1 := Lib.hid (xText'_any g s1 wr hrd.out)
      have hT2 := Lib.hid (fun W hs => xText'_any g (textS s1).2 W hs)
      have hn1 := textS_le s1
      have hn2 := textS_le (textS s1).2
      obtain ⟨b1, hb1⟩ : ∃ x, (textS s1).1 = x := ⟨_, rfl⟩
      obtain ⟨s2, hs2⟩ : ∃ x, (textS s1).2 = x := ⟨_, rfl⟩
      have e1 : textS s1 = (b1, s2) := by rw [← hb1, ← hs2]
      rw [e1] at hT1 hT2 hgo2 hn1 hn2
      simp only at hT2 hgo2 hn1 hn2
      obtain ⟨b2, hb2⟩ : ∃ x, (textS s2).1 = x := ⟨_, rfl⟩
      obtain ⟨s3, hs3⟩ : ∃ x, (textS s2).2 = x := ⟨_, rfl⟩
      have e2 : textS s2 = (b2, s3) := by rw [← hb2, ← hs3]
      rw [e2] at hT2 hgo2 hn2
      simp only at hgo2 hn2
      replace hgo2 := Lib.hid hgo2
      replace hn1 := Lib.hid hn1
      replace hn2 := Lib.hid hn2
      clear hb1 hs2 e1 hb2 hs3 e2 hgo he
      have hbk := Lib.hid (fun g' (e : blkOf A1 = some g') => show g < g' from Nat.lt_of_lt_of_le hgl.out (hown.out.blk g' e).1)
      go_wp2_with (first
        | (go_at_call 81; refine (hT2.out _ (hr4.out.gr (Gr.alloc1 _ _))).mono ?_; rintro e w5 ⟨rfl, hr5, ho5⟩
           have hrow5 : Row w5 w4.heap.size 62 [encStr b1, .string ByteArray.empty] := Row.only (Row.new w4 62 [encStr b1, .string ByteArray.empty]) ho5 (by have := hgw4.out; omega)
           have hf5 := hrow5.frozen 1
           have hrow6 := hrow5.set 1 (encStr b2)
           have z0 : (w5.setCell ⟨w4.heap.size, 1, none⟩ (encStr b2)).cell? ⟨w4.heap.size, 0, none⟩ = some (encStr b1) := hrow6.cell 0
           have z1 : (w5.setCell ⟨w4.heap.size, 1, none⟩ (encStr b2)).cell? ⟨w4.heap.size, 1, none⟩ = some (encStr b2) := hrow6.cell 1
           have y1 : w5.cell? ⟨w4.heap.size, 1, none⟩ = some (.string ByteArray.empty) := hrow5.cell 1
           have hown5 := (ho4.out.gr (Gr.alloc1 w4 (.cells #[encStr b1, .string ByteArray.empty] 62))).keep ho5 (fun g' e e2 => by injection e2 with e2; have := hbk.out g' e; omega)
           have hlt4 := fun g' (e : blkOf A1 = some g') => (ho4.out.blk g' e).2
           have hset := only_set w5 w4.heap.size 1 (encStr b2)
           have hown6 := Lib.hid (hown5.keep hset (fun g' e e2 => by injection e2 with e2; have := hlt4 g' e; omega))
           have hr6 := Lib.hid (hr5.only hset (fun g' e => by injection e with e; have := hgw4.out; omega))
           have hg5 : Gr w w5 := Gr.grownBk (hg4.out.trans' (Gr.alloc1 _ _)) ho5 (fun g' e => by injection e with e; have := hgs.out; omega)
           have hg6 := Lib.hid (Gr.grownBk hg5 hset (fun g' e => by injection e with e; have := hg4.out.size; omega))
           have hsz6 := Lib.hid (show w3.heap.size ≤ (w5.setCell ⟨w4.heap.size, 1, none⟩ (encStr b2)).heap.size from Nat.le_trans (Nat.le_trans hsz4.out (Nat.le_trans (Gr.alloc1 w4 _).size ho5.size)) hset.size)
           clear hrow5 hrow6 hown5 hlt4 hset hg5 hr5 ho5)
        | (go_at_call 81; refine hT1.out.mono ?_; rintro e w4 ⟨rfl, hr4, ho4⟩
           have hgw4 := Lib.hid (show g < w4.heap.size from by obtain ⟨A, c, L, p, hr, _⟩ := hr4; exact hr.lt)
           have hg4 := Lib.hid (Gr.grownBk hgr.out ho4 (fun g' e => by injection e with e; have := hgs.out; omega))
           have hsz4 := Lib.hid (Nat.le_trans hszr.out ho4.size)
           replace ho4 := Lib.hid (hown.out.keep ho4 (fun g' e e2 => by injection e2 with e2; have := hbk.out g' e; omega))
           replace hr4 := Lib.hid hr4
           clear hT1)
        | (at_builtin; with_reducible refine wpList_append (o := ⟨some 35, _, _, _, _, _⟩) _ rfl _ _ 27 rfl w3.heap.size 62 i0 _ 2 32 Try.underlying27 hi hz0 hz1 hz2 rfl (by omega) A1 j c2 _ rfl (hown6.out.gr (Gr.alloc1 _ _)) _ 1 1 [encStr b1, encStr b2] rfl rfl (Rd.newAt (n := w5.heap.size) (by simp) _ _) (by simp [Value.oneCell', encStr]) (by omega) (by unfold maxLen; omega) (Nat.le_trans hsz6.out (Gr.alloc1 _ _).size) ?_
           intro A7 c7 w7 ho7 hk7
           have hq7 := Lib.hid (And.intro ho7 hk7)
           clear ho7 hk7))
      go_roundw
      case rel =>
        obtain ⟨q1, q2⟩ := hq7.out
        refine ⟨j + 1, by omega, by go_num, A7, c7, acc ++ [(b1, b2)], s3, rfl, Lib.hid ?_, Lib.hid ?_, Lib.hid ?_, hgo2, Lib.hid ?_, Lib.hid ?_, Lib.hid ?_⟩
        · rw [frC_app]
          exact q1
        · exact (hr6.out.gr (Gr.alloc1 _ _)).only q2.grown (fun g' e => hbk.out g' e)
        · rw [List.length_append, hal.out]
          rfl
        · intro x hx
          rcases List.mem_append.1 hx with hx | hx
          · exact hsm.out x hx
          · obtain rfl := List.mem_singleton.1 hx
            exact ⟨hn1.out, hn2.out⟩
        · exact Gr.grownBk (hg6.out.trans' (Gr.alloc1 _ _)) q2.grown (fun g' e => by have := (hown.out.blk g' e).1; have := hgs.out; have := hgl.out; omega)
        · exact Nat.le_trans (Nat.le_trans hsz6.out (Gr.alloc1 _ _).size) q2.grown.size
      case measure => simp [intOf]; omega
    · have HE := Lib.hid (xEnd_any g s1 wr hrd.out)
      have HM := Lib.hid (fun n => hal.out ▸ rfits_any (hown.out.rd.drewN n) c2 (by rw [hal.out]; omega) (fun x hx => by have := hsm.out x hx; unfold maxLen; omega))
      have hA := Lib.hid (show ∀ ad, A1 = some ad → w.heap.size ≤ ad.block from fun ad e => by have := (hown.out.blk ad.block (by rw [e]; rfl)).1; have := hgs.out; have := hgl.out; omega)
      have hRb : endS s1 = 0 → mayM acc = 0 → readM b = (acc, 0) := fun h1 h2 => by
        rw [HR.out, hfin.1 h1, if_neg]
        rintro (h | h)
        · exact h h1
        · exact h h2
      have hRa : endS s1 ≠ 0 ∨ mayM acc ≠ 0 → (readM b).2 = 10 := fun h => by
        rw [HR.out, if_pos]
        rcases h with h | h
        · exact .inl (hfin.2 h)
        · by_cases h1 : endS s1 = 0
          · rw [hfin.1 h1]
            exact .inr h
          · exact .inl (hfin.2 h1)
      have hP := Lib.hid (fun (f : Bool) n (h1 : f = true → readM b = (acc, 0)) (h2 : f = false → (readM b).2 = 10) => show ParseP w b (.returned (.tuple #[.slice A1 j c2, .bool f])) (wr.drewN n) from
        ⟨A1, j, c2, acc, f, rfl, hgr.out.trans' (Gr.drawN wr n), hal.out, by omega, hown.out.rd.drewN n, hA.out, hsm.out, h1, h2⟩)
      obtain ⟨e0, he0⟩ : ∃ e0, e0 = endS s1 := ⟨_, rfl⟩
      rw [← he0] at HE hRb hRa
      have hend := Lib.hid (fun h => (he0.trans (endS_bad h)))
      obtain ⟨m0, hm0⟩ : ∃ m0, m0 = mayM acc := ⟨_, rfl⟩
      rw [← hm0] at HM hRb hRa
      clear hfin he0 hm0 hgo hA hrd hown hsm hgr hal HR
      by_cases hlt : j < N0
      · have he := herr2 hlt
        have hb1 : (s1.2 == 0) = false := by simpa using he
        have hb2 : (e0 == 0) = false := by rw [hend.out he]; exact hb1
        have hF := Lib.hid (hRa (.inl (by rw [hend.out he]; exact he)))
        clear hRa hRb hend he herr2
        go_wp2_with (go_at_call 82; refine HE.out.mono ?_; rintro e w6 ⟨rfl, n6, rfl⟩)
        go_ret2
        exact hP.out false n6 (fun h => by cases h) (fun _ => hF.out)
      · have hlt2 : ¬ ((j : Int) < N0) := by omega
        clear hend herr2
        by_cases he : e0 = 0
        · subst he
          by_cases hm : m0 = 0
          · subst hm
            have hF := Lib.hid (hRb rfl rfl)
            clear hRa hRb
            go_wp2_with (first
              | (go_at_call 82; refine HE.out.mono ?_; rintro e w6 ⟨rfl, n6, rfl⟩)
              | (go_at_call 52; refine (HM.out _).mono ?_; rintro e w7 ⟨rfl, hw7⟩; subst hw7))
            go_ret2
            exact hP.out true n6 (fun _ => hF.out) (fun h => by cases h)
          · have hb1 : (m0 == 0) = false := by simpa using hm
            have hF := Lib.hid (hRa (.inr hm))
            clear hRa hRb hm
            go_wp2_with (first
              | (go_at_call 82; refine HE.out.mono ?_; rintro e w6 ⟨rfl, n6, rfl⟩)
              | (go_at_call 52; refine (HM.out _).mono ?_; rintro e w7 ⟨rfl, hw7⟩; subst hw7))
            go_ret2
            exact hP.out false n6 (fun h => by cases h) (fun _ => hF.out)
        · have hb2 : (e0 == 0) = false := by simpa using he
          have hF := Lib.hid (hRa (.inl he))
          clear hRa hRb he
          go_wp2_with (go_at_call 82; refine HE.out.mono ?_; rintro e w6 ⟨rfl, n6, rfl⟩)
          go_ret2
          exact hP.out false n6 (fun h => by cases h) (fun _ => hF.out)
end Go.Proofs.Ytcfbkhgdlgnmgaa
set_option linter.unusedVariables false
set_option linter.unusedSimpArgs false
set_option maxRecDepth 100000
namespace Go.Proofs.Ytcfbkhgdlgnmgaa
open Go.RowKit Go.Maps Go.Sort Cd
section
variable {X : Nat → Prop} {w W : World} {p : Nat} {s v v1 : V} {e1 : Int} {A : Option Addr} {l : List Fl}
set_option maxHeartbeats 8000000 in
theorem rrecover_any (h : RAt w X p s) (hs : Sc s) :
    Calls Try.prog 32 #[.pointer (some ⟨p, 0, none⟩)] w fun e w' => e = .returned (.int .i64 (recoverM s).2) ∧ ∃ X', RAt w' X' p (recoverM s).1 ∧ Mv w X w' X' := by
  have hsl := hs.sl (s' := s) (by omega) (Nat.le_refl _)
  cases hd : s.dead with
  | true =>
    have e0 : recoverM s = (s, 15) := by unfold recoverM; rw [hd, if_pos rfl]
    rw [e0]
    have HRm := Lib.hid (show Calls Try.prog 54 #[.pointer (some ⟨p, 0, none⟩), encStr mk] w fun e W' => e = .returned (.tuple #[encStr [], .bool false, .int .i64 15]) ∧ Gr w W' from by
      have := rread_any h hsl.sm mk
      rwa [show s.read mk = ([], false, 15) from by simp [V.read, hd]] at this)
    clear hd e0 hs hsl
    go_enter Try.func32, Try.ntmps32
    go_wp2_with (go_at_call 54; refine HRm.out.mono ?_; rintro e w1 ⟨rfl, hg1⟩)
    go_ret
    exact ⟨rfl, X, h.gr hg1, Mv.of_gr hg1 X⟩
  | false =>
    have HRm := Lib.hid (rd_read h hsl.sm hd mk)
    have HRj := Lib.hid (fun W (hg : Gr w W) => rd_read (h.gr hg) hsl.sm hd jn)
    have hroom := get_room h.1 jn
    have hat := Lib.hid h
    cases hm : s.now.get mk with
    | none =>
      cases hj : s.now.get jn with
      | none =>
        have e0 : recoverM s = (s, 0) := by unfold recoverM; rw [hd, if_neg Bool.false_ne_true, hm, hj]
        rw [e0]
        rw [hm] at HRm
        rw [hj] at HRj
        clear hd e0 hs hsl hm hj hroom
        go_enter Try.func32, Try.ntmps32
        go_wp2_with (first
          | (go_at_call 54; refine (HRj.out _ hg1.out).mono ?_; rintro e w2 ⟨rfl, hg2⟩)
          | (go_at_call 54; refine HRm.out.mono ?_; rintro e w1 ⟨rfl, hg1⟩; replace hg1 := Lib.hid hg1))
        go_ret
        exact ⟨rfl, X, h.gr (hg1.out.trans' hg2), Mv.of_gr (hg1.out.trans' hg2) X⟩
      | some jb =>
        have e0 : recoverM s = V.thn (s.remove jn) V.flush := by unfold recoverM; rw [hd, if_neg Bool.false_ne_true, hm, hj]; rfl
        rw [e0]
        rw [hm] at HRm
        rw [hj] at HRj
        obtain ⟨r, hr⟩ : ∃ r, s.remove jn = r := ⟨_, rfl⟩
        obtain ⟨v1, e1⟩ := r
        have ho := remove_pair hr
        simp only at ho
        have HS1 := Lib.hid (fun W X (ha : RAt W X p s) => rd_remove ha hsl jn (by decide) hr)
        have hsl1 : Sl v1 := hs.sl (by omega) (by omega)
        rw [hr]
        clear hd e0 hm hj hr ho hroom hsl
        by_cases he : e1 = 0
        · subst he
          rw [thn_ok (r := (v1, 0)) rfl]
          obtain ⟨r, hr⟩ : ∃ r, V.flush v1 = r := ⟨_, rfl⟩
          obtain ⟨v2, e2⟩ := r
          have HS2 := Lib.hid (fun W X (ha : RAt W X p v1) => rd_flush ha hsl1 hr)
          rw [show V.flush (v1, (0 : Int)).1 = (v2, e2) from hr]
          clear hs hsl1 hr
          go_enter Try.func32, Try.ntmps32
          go_wp2_with (first
            | (go_at_call 54; refine (HRj.out _ hg1.out).mono ?_; rintro e w2 ⟨rfl, hg2⟩; have hg3 := Lib.hid (hg1.out.trans' hg2); clear hg2)
            | (go_at_call 54; refine HRm.out.mono ?_; rintro e w1 ⟨rfl, hg1⟩; replace hg1 := Lib.hid hg1)
            | (go_at_call 62; refine (HS1.out _ _ (hat.out.gr hg3.out)).mono ?_; rintro e w4 ⟨rfl, X4, ha, hm⟩; have hq4 := Lib.hid (And.intro ha hm); clear ha hm)
            | (go_at_call 56; refine (HS2.out _ _ hq4.out.1).mono ?_; rintro e w5 ⟨rfl, X5, ha, hm⟩; have hq5 := Lib.hid (And.intro ha hm); clear ha hm))
          go_ret
          exact ⟨rfl, X5, hq5.out.1, ((Mv.of_gr hg3.out X).trans hq4.out.2).trans hq5.out.2⟩
        · rw [thn_bad (r := (v1, e1)) he]
          have he2 : (e1 == 0) = false := by simpa using he
          have he3 : (e1 != 0) = true := by simpa using he
          clear hs hsl1
          go_enter Try.func32, Try.ntmps32
          go_wp2_with (first
            | (go_at_call 54; refine (HRj.out _ hg1.out).mono ?_; rintro e w2 ⟨rfl, hg2⟩; have hg3 := Lib.hid (hg1.out.trans' hg2); clear hg2)
            | (go_at_call 54; refine HRm.out.mono ?_; rintro e w1 ⟨rfl, hg1⟩; replace hg1 := Lib.hid hg1)
            | (go_at_call 62; refine (HS1.out _ _ (hat.out.gr hg3.out)).mono ?_; rintro e w4 ⟨rfl, X4, ha, hm⟩; have hq4 := Lib.hid (And.intro ha hm); clear ha hm))
          go_ret
          exact ⟨rfl, X4, hq4.out.1, (Mv.of_gr hg3.out X).trans hq4.out.2⟩
    | some mb =>
      cases hj : s.now.get jn with
      | none =>
        have e0 : recoverM s = (s, 10) := by unfold recoverM; rw [hd, if_neg Bool.false_ne_true, hm, hj]
        rw [e0]
        rw [hm] at HRm
        rw [hj] at HRj
        have HP := Lib.hid (fun W => parse_any W [] (by simp))
        clear hd e0 hs hsl hm hj hroom
        go_enter Try.func32, Try.ntmps32
        go_wp2_with (first
          | (go_at_call 54; refine (HRj.out _ hg1.out).mono ?_; rintro e w2 ⟨rfl, hg2⟩; have hg3 := Lib.hid (hg1.out.trans' hg2); clear hg2)
          | (go_at_call 54; refine HRm.out.mono ?_; rintro e w1 ⟨rfl, hg1⟩; replace hg1 := Lib.hid hg1)
          | (go_at_call 61; refine (HP.out _).mono ?_; rintro e w4 ⟨A4, n4, c4, l4, f4, rfl, hg4, _⟩))
        go_ret
        exact ⟨rfl, X, h.gr (hg3.out.trans' hg4), Mv.of_gr (hg3.out.trans' hg4) X⟩
      | some jb =>
        rw [hj] at hroom
        have HP := Lib.hid (fun W => parse_any W jb hroom)
        have e0 : recoverM s = if (readM jb).2 ≠ 0 then (s, (readM jb).2) else writeM s (readM jb).1 := by unfold recoverM; rw [hd, if_neg Bool.false_ne_true, hm, hj]
        rw [hm] at HRm
        rw [hj] at HRj
        obtain ⟨R, hR⟩ : ∃ R, recoverM s = R := ⟨_, rfl⟩
        rw [hR] at e0 ⊢
        have hRt := Lib.hid (fun l (h : readM jb = (l, 0)) => show R = writeM s l from by rw [e0, h]; rfl)
        have hRf := Lib.hid (fun (h : (readM jb).2 = 10) => show R = (s, 10) from by rw [e0, h, if_pos (by decide)])
        have hlt := Lib.hid h.lt
        have HD := Lib.hid (fun W (hg : Gr w W) (A : Option Addr) (n c : Nat) (l : List Fl) (hl : l.length = n) (hn : n ≤ 255) (hr : Rd W A (l.flatMap frC)) (hA : ∀ ad, A = some ad → w.heap.size ≤ ad.block) (hsm : ∀ x ∈ l, x.1.length ≤ 65535 ∧ x.2.length ≤ 65535) =>
          hl ▸ rdone_any (h.gr hg) hs hr (fun _ ad e hx => by have := hA ad e; have := hlt.out _ hx; omega) c (by omega) (fun x hx => by have := hsm x hx; unfold maxLen; omega))
        clear hd e0 hs hsl hm hj hroom hR h
        go_enter Try.func32, Try.ntmps32
        go_wp2_with (first
          | (go_at_call 54; refine (HRj.out _ hg1.out).mono ?_; rintro e w2 ⟨rfl, hg2⟩; have hg3 := Lib.hid (hg1.out.trans' hg2); clear hg2)
          | (go_at_call 54; refine HRm.out.mono ?_; rintro e w1 ⟨rfl, hg1⟩; replace hg1 := Lib.hid hg1)
          | (go_at_call 61; refine (HP.out _).mono ?_; rintro e w4 ⟨A4, n4, c4, l4, f4, rfl, hg4, hl4, hn4, hr4, hA4, hs4, ht4, hf4⟩
             have hg5 := Lib.hid (hg3.out.trans' hg4)
             have hA5 : ∀ ad, A4 = some ad → w.heap.size ≤ ad.block := fun ad e => Nat.le_trans hg3.out.size (hA4 ad e)
             have HD5 := Lib.hid (HD.out _ hg5.out A4 n4 c4 l4 hl4 hn4 hr4 hA5 hs4)
             have hRt5 := Lib.hid (fun e => hRt.out l4 (ht4 e))
             have hRf5 := Lib.hid (fun e => hRf.out (hf4 e))
             clear HD hRt hRf hg4 hl4 hn4 hr4 hA4 hs4 ht4 hf4 hA5 HP
             cases f4)
          | (go_at_call 57; refine HD5.out.mono ?_; rintro e w6 ⟨rfl, X6, ha, hm⟩; have hq6 := Lib.hid (And.intro ha hm); clear ha hm))
        · go_ret
          rw [hRf5.out trivial]
          exact ⟨rfl, X, hat.out.gr hg5.out, Mv.of_gr hg5.out X⟩
        · go_ret
          rw [hRt5.out trivial]
          exact ⟨rfl, X6, hq6.out.1, (Mv.of_gr hg5.out X).trans hq6.out.2⟩
end
end Go.Proofs.Ytcfbkhgdlgnmgaa
set_option linter.unusedVariables false
set_option linter.unusedSimpArgs false
set_option maxRecDepth 100000
namespace Go.Proofs.Ytcfbkhgdlgnmgaa
open Go.RowKit Go.Maps Go.Sort Cd
section
variable {X Z : Nat → Prop} {w w' : World} {p : Nat} {s : V} {A : Option Addr} {rs : List FlR}
theorem byteS_small (s : Rs) : 0 ≤ (byteS s).1 ∧ (byteS s).1 < 256 := by
  have h := num_lt (takeS s 1).1
  have h2 : 256 ^ (takeS s 1).1.length ≤ 256 ^ 1 := Nat.pow_le_pow_right (by omega) (takeS_fst_le s 1)
  unfold byteS
  simp only
  omega
theorem textS_small (s : Rs) : (textS s).1.length ≤ 65535 := by
  have h := takeS_fst_le (takeS s 2).2 (num (takeS s 2).1)
  have h2 := num_small s 2 (by omega)
  unfold textS
  omega
set_option maxHeartbeats 1000000 in
theorem cread_any (c : Nat) (bs : Str) (hx : Rd w A (bs.map bv)) (hl : bs.length ≤ 100000000) :
    Calls Try.prog 47 #[.slice A bs.length c] w fun e w' => ∃ A' n' c' rs, e = .returned (.tuple #[.slice A' n' c', .int .i64 (readM bs).2]) ∧ FlO w' (fun i => w.heap.size ≤ i) w.heap.size A' n' c' rs ∧ rs.map FlR.fl = (readM bs).1 ∧ (∀ f ∈ rs, f.q.n ≤ 65535) ∧ Gr w w' := by
  have H0 := Lib.hid (Cd.new_any A c bs w hx (by omega))
  obtain ⟨R, hR⟩ : ∃ R, R = readM bs := ⟨_, rfl⟩
  rw [← hR]
  have HR := Lib.hid hR
  clear hR
  obtain ⟨N0, hN0⟩ : ∃ N : Nat, N = (byteS (bs, 0)).1.toNat := ⟨_, rfl⟩
  have hbsm := byteS_small (bs, 0)
  have hN1 : (byteS (bs, 0)).1 = (N0 : Int) := by omega
  have hN2 : N0 ≤ 255 := by omega
  have H1 := Lib.hid (fun g W (hs : RdrAt W g (bs, 0)) => hN1 ▸ rByte_any g (bs, 0) W hs)
  obtain ⟨s0, hs0⟩ : ∃ s0, s0 = (byteS (bs, 0)).2 := ⟨_, rfl⟩
  rw [← hs0] at H1
  have HR2 := Lib.hid (show R = if endS (readGo N0 s0 []).2 ≠ 0 ∨ mayM (readGo N0 s0 []).1 ≠ 0 then ([], 10) else ((readGo N0 s0 []).1, 0) from by rw [HR.out, hs0, hN0]; rfl)
  clear hbsm hN1 hN0 hs0 HR
  obtain ⟨i0, hi, hz0, hz1, hz2⟩ := info_parts info_cfile
  go_enter Try.func47, Try.ntmps47
  go_wp2_with (first
    | (go_at_call 68; refine H0.out.mono ?_; rintro e w1 ⟨g, rfl, hgl, hr1, hg1⟩)
    | (go_at_call 69; refine (H1.out g _ hr1).mono ?_; rintro e w2 ⟨rfl, hr2, ho2⟩))
  have hg2 : Gr w w2 := Gr.grownBk hg1 ho2 (fun g' e => by injection e with e; omega)
  have hsz2 := Lib.hid (show g < w2.heap.size from by obtain ⟨A, c, h1, _⟩ := hr2; exact h1.lt)
  have hgs2 := Lib.hid hg2.size
  clear hr1 ho2 hg1 H0 H1
  go_loopw [5, 10] (fun t i wr => ∃ j : Nat, j ≤ N0 ∧ i = .int .i64 j ∧ ∃ A' c' rs s', t = .slice A' j c' ∧ Hid (FlO wr (fun i => w.heap.size ≤ i ∧ i ≠ g) w2.heap.size A' j c' rs) ∧ Hid (RdrAt wr g s') ∧ Hid (readGo (N0 - j) s' (rs.map FlR.fl) = readGo N0 s0 []) ∧ Hid (∀ f ∈ rs, f.q.n ≤ 65535) ∧ Hid (w2.heap.size ≤ wr.heap.size) ∧ Gr w wr) (fun _ i _ => N0 - (intOf i).toNat)
  case atStart => exact ⟨0, by omega, rfl, none, 0, [], s0, rfl, Lib.hid (FlO.nil _ _ _), Lib.hid hr2, Lib.hid rfl, Lib.hid (fun f hf => by cases hf), Lib.hid (Nat.le_refl _), hg2⟩
  case round =>
    obtain ⟨j, hj, rfl, A1, c1, rs, s1, rfl, hfl, hrd, hgo, hsm, hszr', hg⟩ := hrel
    have hszr := hszr'.out
    by_cases hlt : j < N0
    · have hT := Lib.hid (fun s W (hs : RdrAt W g s) => rText_any g s W hs)
      have hn1 := textS_small s1
      have hn2 := textS_small (textS s1).2
      have hgo2 : readGo (N0 - (j + 1)) (textS (textS s1).2).2 (rs.map FlR.fl ++ [((textS s1).1, (textS (textS s1).2).1)]) = readGo N0 s0 [] := by
        rw [← hgo.out, show N0 - j = (N0 - (j + 1)) + 1 by omega]
        rfl
      have hT1 := Lib.hid (hT.out s1 wr hrd.out)
      have hT2 := Lib.hid (fun W hs => hT.out (textS s1).2 W hs)
      clear hT hgo
      have hgo3 := Lib.hid hgo2
      clear hgo2
      generalize textS s1 = o1 at *
      obtain ⟨b1, s2⟩ := o1
      simp only at hn1 hn2 hT1 hT2 hgo3
      generalize textS s2 = o2 at *
      obtain ⟨b2, s3⟩ := o2
      simp only at hn2 hT2 hgo3
      have hne : ∀ W s, RdrAt W g s → FlO W (fun i => w.heap.size ≤ i ∧ i ≠ g) w2.heap.size A1 j c1 rs → ∀ g', blkOf A1 = some g' → some g ≠ some g' := fun W s ⟨A, c, hr, _⟩ hf g' hg' e => by
        injection e with e
        subst e
        rcases hf.own.2 with ⟨e1, _⟩ | ⟨g1, rest, e1, _, hr1, _⟩
        · rw [e1] at hg'; cases hg'
        · rw [e1] at hg'
          injection hg' with hg'
          simp only at hg'
          subst hg'
          exact hr.ne hr1 (by decide) rfl
      have hne := Lib.hid hne
      have hgl := Lib.hid hgl
      go_wp2_with (first
        | (go_at_call 70; refine (hT2.out _ hr3.out).mono ?_; rintro e w4 ⟨rfl, hr4, ho4⟩
           have hf4 := hf3.out.keep ho4 (hne.out _ _ hr3.out hf3.out) (fun i hi e => by injection e with e; exact hi.2 e.symm)
           have hg4 : Gr w w4 := Gr.grownBk hg3.out ho4 (fun g' e => by injection e with e; have := hgl.out; omega)
           obtain ⟨c5, w5, hcv, hg5, hr5, hl5, hm5, hz5⟩ := conv_new (P := Try.prog) w4 9 29 5 b2 (by unfold maxLen; omega) Try.underlying9 Try.underlying29 Try.underlying5
           have hrd5 := Lib.hid (show RdrAt w5 g s3 from by obtain ⟨A, c, h1, h2, h3⟩ := hr4; exact ⟨A, c, h1.gr hg5, h2.gr hg5, h3⟩)
           have hw24 : w2.heap.size ≤ w5.heap.size := Nat.le_trans (Nat.le_trans hsz3.out ho4.size) hg5.size
           have hz4 := Lib.hid (show g < w4.heap.size from by obtain ⟨A, c, h1, _⟩ := hr4; exact h1.lt)
           have hf5 := Lib.hid (And.intro (hf4.gr hg5) (And.intro (show Rw.Ok w5 ⟨some ⟨w4.heap.size, 0, none⟩, b2.length, c5, b2⟩ from ⟨Lib.hid rfl, hr5, hl5, hm5⟩) (And.intro hz5 (And.intro (hg4.trans' hg5) (And.intro hg4.size (And.intro (fun g' e => (hf4.own.blk g' e).2) hw24))))))
           clear hf4 hg4 hg5 hr5 hl5 hm5 hz5 hr4 ho4 hf3 hr3 hg3)
        | (go_at_call 70; refine hT1.out.mono ?_; rintro e w3 ⟨rfl, hr3, ho3⟩
           have hf3 := Lib.hid (hfl.out.keep ho3 (hne.out _ _ hrd.out hfl.out) (fun i hi e => by injection e with e; exact hi.2 e.symm))
           have hg3 : Hid (Gr w w3) := Lib.hid (Gr.grownBk hg ho3 (fun g' e => by injection e with e; have := hgl.out; omega))
           have hsz3 := Lib.hid (show w2.heap.size ≤ w3.heap.size from Nat.le_trans hszr ho3.size)
           replace hr3 := Lib.hid hr3
           clear ho3 hT1)
        | (at_builtin; with_reducible refine wpList_append (o := ⟨some 20, _, _, _, _, _⟩) _ rfl _ _ 22 rfl w2.heap.size 31 i0 _ 2 40 Try.underlying22 hi hz0 hz1 hz2 rfl (by omega) A1 j c1 _ rfl (hf5.out.1.own.gr (Gr.alloc1 _ _)) _ 1 1 [encStr b1, .slice (some ⟨w4.heap.size, 0, none⟩) b2.length c5] rfl rfl (Rd.new _ [encStr b1, .slice (some ⟨w4.heap.size, 0, none⟩) b2.length c5] _) (by simp [Value.oneCell']) (by omega) (by unfold maxLen; omega) (Nat.le_trans hf5.out.2.2.2.2.2.2 (Gr.alloc1 _ _).size) ?_
           intro A6 c6 w6 ho6 hk6
           have hq6 := Lib.hid (And.intro ho6 hk6)
           clear ho6 hk6))
      go_roundw
      case rel =>
        obtain ⟨k1, k2, k3, k4, k5, k6, k7⟩ := hf5.out
        obtain ⟨q1, q2⟩ := hq6.out
        have hz4' := hz4.out
        refine ⟨j + 1, by omega, by go_num, A6, c6, rs ++ [⟨b1, ⟨some ⟨w4.heap.size, 0, none⟩, b2.length, c5, b2⟩⟩], s3, rfl, Lib.hid ?_, Lib.hid ?_, Lib.hid ?_, Lib.hid ?_, Lib.hid ?_, ?_⟩
        · exact (k1.gr (Gr.alloc1 _ _)).push (f := ⟨b1, ⟨some ⟨w4.heap.size, 0, none⟩, b2.length, c5, b2⟩⟩) (k2.gr (Gr.alloc1 _ _)) (by show b1.length ≤ maxLen; unfold maxLen; omega)
            (fun _ ad e => by
              simp only [Option.some.injEq] at e
              subst e
              refine ⟨⟨k5, ?_⟩, fun e => ?_, ?_⟩
              · show w4.heap.size ≠ g
                omega
              · have := k6 _ e
                simp only at this
                omega
              · show w4.heap.size < _
                have := (Gr.alloc1 w5 (.cells #[encStr b1, .slice (some ⟨w4.heap.size, 0, none⟩) b2.length c5] 31)).size
                have h2 : w4.heap.size < w5.heap.size := by omega
                exact Nat.lt_of_lt_of_le h2 this) q1 q2
        · obtain ⟨A, c, h1, h2, h3⟩ := hrd5.out
          have hrow := (h1.gr (Gr.alloc1 _ (.cells #[encStr b1, .slice (some ⟨w4.heap.size, 0, none⟩) b2.length c5] 31)))
          have hgb : ∀ g', blkOf A1 = some g' → g < g' := fun g' e => by have := (k1.own.blk g' e).1; have := hsz2.out; omega
          exact ⟨A, c, (q2.grown.block g hrow.lt (fun e => by have := hgb g e.symm; omega)).trans hrow, (h2.gr (Gr.alloc1 _ _)).grown q2.grown (fun h0 ad e e2 => by have := hgb _ e2; have := h3.2.2 ad e; omega), h3⟩
        · rw [List.map_append]
          exact hgo3.out
        · intro f hf
          rcases List.mem_append.1 hf with hf | hf
          · exact hsm.out f hf
          · obtain rfl := List.mem_singleton.1 hf
            exact hn2
        · exact Nat.le_trans (Nat.le_trans k7 (Gr.alloc1 _ _).size) q2.grown.size
        · exact Gr.grownBk (k4.trans' (Gr.alloc1 _ _)) q2.grown (fun g' e => Nat.le_trans hgs2.out (k1.own.blk g' e).1)
      case measure => simp [intOf]; omega
    · obtain rfl : j = N0 := by omega
      obtain ⟨hsz, _⟩ : rs.length = j ∧ True := ⟨hfl.out.len, trivial⟩
      have hgo2 := hgo.out
      rw [Nat.sub_self, show readGo 0 s1 (rs.map FlR.fl) = (rs.map FlR.fl, s1) from rfl] at hgo2
      have hR := HR2.out
      rw [← hgo2] at hR
      have HE := Lib.hid (rEnd_any g s1 wr hrd.out)
      have HM := Lib.hid (hsz ▸ may_any hfl.out.fls c1 (by omega) (by rw [hsz]; exact hfl.out.own.le.1) (fun f hf => by have := hsm.out f hf; omega))
      have hRa : endS s1 ≠ 0 ∨ mayM (rs.map FlR.fl) ≠ 0 → R = ([], 10) := fun h => hR.trans (if_pos h)
      have hRb : endS s1 = 0 → mayM (rs.map FlR.fl) = 0 → R = (rs.map FlR.fl, 0) := fun h1 h2 => hR.trans (if_neg (by rintro (h | h); exact h h1; exact h h2))
      clear hR
      generalize endS s1 = e1 at HE hRa hRb
      generalize mayM (rs.map FlR.fl) = m at HM hRa hRb
      have hfz := Lib.hid (hfl.out)
      clear hgo2 hgo HR2 hrd hfl
      by_cases he : e1 = 0
      · subst he
        by_cases hm : m = 0
        · subst hm
          have HRR := Lib.hid (hRb rfl rfl)
          clear hRa hRb
          go_wp2_with (first
            | (go_at_call 71; refine HE.out.mono ?_; rintro e w7 ⟨rfl, rfl⟩)
            | (go_at_call 40; refine HM.out.mono ?_; rintro e w8 ⟨rfl, hg8⟩))
          go_ret2
          rw [HRR.out]
          exact ⟨A1, j, c1, rs, rfl, ⟨(hfz.out.gr hg8).own.more (fun g' e => Nat.le_trans hgs2.out ((hfz.out.gr hg8).own.blk g' e).1), fun f hf => ⟨((hfz.out.gr hg8).ok f hf).1, ((hfz.out.gr hg8).ok f hf).2.1, fun h0 ad e => ⟨(((hfz.out.gr hg8).ok f hf).2.2 h0 ad e).1.1, (((hfz.out.gr hg8).ok f hf).2.2 h0 ad e).2⟩⟩⟩, rfl, hsm.out, hg.trans' hg8⟩
        · have HRR := Lib.hid (hRa (.inr hm))
          clear hRa hRb
          have hbn : (m != 0) = true := by simpa using hm
          go_wp2_with (first
            | (go_at_call 71; refine HE.out.mono ?_; rintro e w7 ⟨rfl, rfl⟩)
            | (go_at_call 40; refine HM.out.mono ?_; rintro e w8 ⟨rfl, hg8⟩))
          go_ret2
          rw [HRR.out]
          exact ⟨none, 0, 0, [], rfl, FlO.nil _ _ _, rfl, fun f hf => (by cases hf), hg.trans' hg8⟩
      · have HRR := Lib.hid (hRa (.inl he))
        clear hRa hRb
        have hbn : (e1 != 0) = true := by simpa using he
        go_wp2_with (go_at_call 71; refine HE.out.mono ?_; rintro e w7 ⟨rfl, rfl⟩)
        go_ret2
        rw [HRR.out]
        exact ⟨none, 0, 0, [], rfl, FlO.nil _ _ _, rfl, fun f hf => (by cases hf), hg⟩
end
end Go.Proofs.Ytcfbkhgdlgnmgaa
set_option linter.unusedVariables false
set_option linter.unusedSimpArgs false
set_option maxRecDepth 100000
namespace Go.Proofs.Ytcfbkhgdlgnmgaa
open Go.RowKit Go.Maps Go.Sort
section
variable {X Z : Nat → Prop} {w w' : World} {p : Nat} {s : V} {A : Option Addr} {rs : List FlR}
set_option maxHeartbeats 2000000 in
theorem recover_any (h : At w X p s) (hs : Sc s) :
    Calls Try.prog 22 #[.pointer (some ⟨p, 0, none⟩)] w fun e w' => e = .returned (.int .i64 (recoverM s).2) ∧ ∃ X', At w' X' p (recoverM s).1 ∧ Mv w X w' X' := by
  have hsl := hs.sl (s' := s) (by omega) (Nat.le_refl _)
  have HD := Lib.hid (dead_any h)
  obtain ⟨R, hR⟩ : ∃ R, R = recoverM s := ⟨_, rfl⟩
  rw [← hR]
  have HRs := Lib.hid hR
  clear hR
  cases hd : s.dead with
  | true =>
    have hR : R = (s, 15) := by rw [HRs.out]; unfold recoverM; rw [if_pos hd]
    have HRR := Lib.hid hR
    clear hR
    rw [hd] at HD
    go_enter Try.func22, Try.ntmps22
    go_wp2_with (go_at_call 45; refine HD.out.mono ?_; rintro e w1 ⟨rfl, rfl⟩)
    go_ret
    rw [HRR.out]
    exact ⟨rfl, X, h, Mv.rfl' _ _⟩
  | false =>
    rw [hd] at HD
    have HR := Lib.hid (fun W (hg : Gr w W) (m : Str) (hm : m.length ≤ maxLen) => show Calls Try.prog 44 #[.pointer (some ⟨p, 0, none⟩), encStr m] W fun e w' => ∃ A' n' c', e = .returned (.tuple #[.slice A' n' c', .bool (s.now.get m).isSome, .int .i64 0]) ∧ Hid (((s.now.get m).getD []).length = n') ∧ Rd w' A' (((s.now.get m).getD []).map bv) ∧ Gr W w' from by
      refine (read_any (h.gr hg) m hm).mono ?_
      rw [show s.read m = ((s.now.get m).getD [], (s.now.get m).isSome, 0) from by simp [V.read, hd]]
      rintro e w' ⟨A', m', c', rfl, hm', ho, hg⟩
      exact ⟨A', m', c', rfl, Lib.hid hm'.symm, ho.rd, hg⟩)
    have HJ := Lib.hid (fun W hg => HR.out W hg jn (by decide))
    have HM := Lib.hid (fun W hg => HR.out W hg mk (by decide))
    have HAW := Lib.hid (fun W (hg : Gr w W) => away_any (h.gr hg) hsl jn (by decide))
    have hroom := get_room h.1 jn
    unfold mostRoom at hroom
    clear HR
    have hRR : R = match s.now.get mk, s.now.get jn with
      | none, none => (s, 0)
      | none, some _ => awayM s jn
      | some _, none => (s, 10)
      | some _, some b => if (readM b).2 ≠ 0 then (s, (readM b).2) else writeM s (readM b).1 := by
      rw [HRs.out]; unfold recoverM; rw [if_neg (by simp [hd])]; try (cases s.now.get mk <;> cases s.now.get jn <;> rfl)
    cases hm : s.now.get mk with
    | none =>
      cases hj : s.now.get jn with
      | none =>
        rw [hm, hj] at hRR
        rw [hm] at HM
        rw [hj] at HJ
        have HRR := Lib.hid hRR
        clear hRR hm hj
        go_enter Try.func22, Try.ntmps22
        go_wp2_with (first
          | (go_at_call 45; refine HD.out.mono ?_; rintro e w1 ⟨rfl, hw1⟩; subst hw1; clear HD)
          | (go_at_call 44; refine (HJ.out _ hg2.out).mono ?_; rintro e w3 ⟨A3, n3, c3, rfl, hn3, hr3, hg3⟩; replace hg3 := Lib.hid (hg2.out.trans' hg3))
          | (go_at_call 44; refine (HM.out _ (Gr.rfl' _)).mono ?_; rintro e w2 ⟨A2, n2, c2, rfl, hn2, hr2, hg2⟩; replace hg2 := Lib.hid hg2))
        go_ret
        rw [HRR.out]
        exact ⟨rfl, X, h.gr hg3.out, Mv.of_gr hg3.out X⟩
      | some b =>
        rw [hm, hj] at hRR
        rw [hm] at HM
        rw [hj] at HJ
        simp only at hRR
        rw [← hRR] at HAW
        clear hRR hm hj
        go_enter Try.func22, Try.ntmps22
        go_wp2_with (first
          | (go_at_call 45; refine HD.out.mono ?_; rintro e w1 ⟨rfl, hw1⟩; subst hw1; clear HD)
          | (go_at_call 44; refine (HJ.out _ hg2.out).mono ?_; rintro e w3 ⟨A3, n3, c3, rfl, hn3, hr3, hg3⟩; replace hg3 := Lib.hid (hg2.out.trans' hg3))
          | (go_at_call 44; refine (HM.out _ (Gr.rfl' _)).mono ?_; rintro e w2 ⟨A2, n2, c2, rfl, hn2, hr2, hg2⟩; replace hg2 := Lib.hid hg2)
          | (go_at_call 46; refine (HAW.out _ hg3.out).mono ?_; rintro e w4 ⟨rfl, X4, ha4, hm4⟩))
        go_ret
        exact ⟨rfl, X4, ha4, (Mv.of_gr hg3.out X).trans hm4⟩
    | some x =>
      cases hj : s.now.get jn with
      | none =>
        rw [hm, hj] at hRR
        rw [hm] at HM
        rw [hj] at HJ
        have HRR := Lib.hid hRR
        clear hRR hm hj
        go_enter Try.func22, Try.ntmps22
        go_wp2_with (first
          | (go_at_call 45; refine HD.out.mono ?_; rintro e w1 ⟨rfl, hw1⟩; subst hw1; clear HD)
          | (go_at_call 44; refine (HJ.out _ hg2.out).mono ?_; rintro e w3 ⟨A3, n3, c3, rfl, hn3, hr3, hg3⟩; replace hg3 := Lib.hid (hg2.out.trans' hg3))
          | (go_at_call 44; refine (HM.out _ (Gr.rfl' _)).mono ?_; rintro e w2 ⟨A2, n2, c2, rfl, hn2, hr2, hg2⟩; replace hg2 := Lib.hid hg2))
        go_ret
        rw [HRR.out]
        exact ⟨rfl, X, h.gr hg3.out, Mv.of_gr hg3.out X⟩
      | some b =>
        rw [hm, hj] at hRR
        rw [hm] at HM
        rw [hj] at HJ hroom
        simp only [Option.getD_some] at hRR HJ hroom
        have HRD := Lib.hid (fun W A c (hr : Rd W A (b.map bv)) => cread_any (A := A) (w := W) c b hr (by omega))
        have hm8 : (readM b).2 = 0 → (readM b).1.length ≤ 255 := fun e => by
          unfold readM at e ⊢
          simp only at e ⊢
          split at e
          · cases e
          · rename_i hne
            rw [if_neg hne]
            have := mayM_zero (Decidable.of_not_not fun hh => hne (.inr hh))
            simp only
            omega
        have HWr := Lib.hid (fun W (hg : Gr w W) A n c (rs : List FlR) W' (hg' : Gr W W') (hf : FlO W' (fun i => W.heap.size ≤ i) W.heap.size A n c rs) (hl : rs.length ≤ 255) (hb : ∀ f ∈ rs, f.q.n ≤ 65535) => show Calls Try.prog 43 #[.pointer (some ⟨p, 0, none⟩), .slice A n c] W' fun e w' => e = .returned (.int .i64 (writeM s (rs.map FlR.fl)).2) ∧ ∃ X', At w' X' p (writeM s (rs.map FlR.fl)).1 ∧ Mv W' X w' X' from by
          have hln := hf.len
          subst hln
          refine cwrite_any (h.gr (hg.trans' hg')) hs hf.fls (fun i hi => ⟨fun hx => ?_, hi.2⟩) c hl (fun f hf' => by have := hb f hf'; omega)
          have h1 := h.lt i hx
          have h2 := hg.size
          rcases hi.1 with h3 | h3
          · omega
          · have := (hf.own.blk i h3).1
            omega)
        clear HAW hm hj
        generalize readM b = q at hRR hm8 HRD
        obtain ⟨l, e0⟩ := q
        simp only at hRR hm8 HRD
        by_cases he : e0 = 0
        · subst he
          rw [if_neg (by simp)] at hRR
          have HRR := Lib.hid hRR
          clear hRR
          have hm8 := hm8 rfl
          go_enter Try.func22, Try.ntmps22
          go_wp2_with (first
            | (go_at_call 45; refine HD.out.mono ?_; rintro e w1 ⟨rfl, hw1⟩; subst hw1; clear HD)
            | (go_at_call 44; refine (HJ.out _ hg2.out).mono ?_; rintro e w3 ⟨A3, n3, c3, rfl, hn3, hr3, hg3⟩; replace hg3 := Lib.hid (hg2.out.trans' hg3); have hn3' := hn3.out; subst hn3')
            | (go_at_call 44; refine (HM.out _ (Gr.rfl' _)).mono ?_; rintro e w2 ⟨A2, n2, c2, rfl, hn2, hr2, hg2⟩; replace hg2 := Lib.hid hg2)
            | (go_at_call 47; refine (HRD.out _ A3 c3 hr3).mono ?_; rintro e w4 ⟨A4, n4, c4, rs, rfl, hf4, hl4, hb4, hg4⟩; replace hf4 := Lib.hid hf4; replace hl4 := Lib.hid hl4; replace hb4 := Lib.hid hb4; replace hg4 := Lib.hid hg4)
            | (go_at_call 43; refine (HWr.out _ hg3.out _ _ _ rs _ hg4.out hf4.out (by have := congrArg List.length hl4.out; rw [List.length_map] at this; omega) hb4.out).mono ?_; rw [hl4.out, ← HRR.out]; rintro e w5 ⟨rfl, X5, ha5, hm5⟩))
          go_ret
          exact ⟨rfl, X5, ha5, (Mv.of_gr (hg3.out.trans' hg4.out) X).trans hm5⟩
        · rw [if_pos he] at hRR
          have HRR := Lib.hid hRR
          clear hRR
          have hbn : (e0 != 0) = true := by simpa using he
          go_enter Try.func22, Try.ntmps22
          go_wp2_with (first
            | (go_at_call 45; refine HD.out.mono ?_; rintro e w1 ⟨rfl, hw1⟩; subst hw1; clear HD)
            | (go_at_call 44; refine (HJ.out _ hg2.out).mono ?_; rintro e w3 ⟨A3, n3, c3, rfl, hn3, hr3, hg3⟩; replace hg3 := Lib.hid (hg2.out.trans' hg3); have hn3' := hn3.out; subst hn3')
            | (go_at_call 44; refine (HM.out _ (Gr.rfl' _)).mono ?_; rintro e w2 ⟨A2, n2, c2, rfl, hn2, hr2, hg2⟩; replace hg2 := Lib.hid hg2)
            | (go_at_call 47; refine (HRD.out _ A3 c3 hr3).mono ?_; rintro e w4 ⟨A4, n4, c4, rs, rfl, hf4, hl4, hb4, hg4⟩; replace hg4 := Lib.hid hg4))
          go_ret
          rw [HRR.out]
          exact ⟨rfl, X, (h.gr hg3.out).gr hg4.out, Mv.of_gr (hg3.out.trans' hg4.out) X⟩
end
end Go.Proofs.Ytcfbkhgdlgnmgaa
set_option linter.unusedVariables false
set_option linter.unusedSimpArgs false
set_option maxRecDepth 100000
namespace Go.Proofs.Ytcfbkhgdlgnmgaa
open Go.RowKit Go.Maps Go.Sort
theorem FlS.nil (w : World) (Z : Nat → Prop) (A : Option Addr) : FlS w Z A [] := ⟨Rd.nil _ _, fun h => absurd h (by simp), fun f hf => by cases hf⟩
theorem kn_c : commitM (V.new 100) [] = (V.new 100, 1) := by rfl
def kn1 : V := ⟨[(jn, [1])], [], [⟨jn, [1], false⟩], 100, 0, 1, false⟩
theorem kn1_eq : (V.new 100).write jn [1] = (kn1, 0) := by rfl
def kn2 : V := ⟨[], [], [], 100, 0, 3, false⟩
theorem kn2_eq : recoverM kn1 = (kn2, 0) := by rfl
set_option maxHeartbeats 2000000 in
theorem known_any (w : World) : Calls Try.prog 10 #[] w fun e w' => e = .returned (.bool true) ∧ Gr w w' := by
  go_enter Try.func10, Try.ntmps10
  go_wp2_with (first
    | (go_at_call 16; refine (new_any 100 w).mono ?_; rintro e w1 ⟨p, X, rfl, ha, hg, hx⟩
       have hS := Lib.hid (Sv.new ha hg hx)
       have HC := Lib.hid (commit_any (A := none) (rs := []) (Z := fun _ => False) hS.out.at_ ⟨Nat.zero_le _, Nat.zero_le _⟩ (FlS.nil _ _ _) (fun i hi => hi.elim) 0 (by simp) (by simp) (fun f hf => by cases hf))
       rw [List.map_nil, kn_c] at HC
       clear ha hg hx)
    | (go_at_call 19; refine HC.out.mono ?_; rintro e w2 ⟨rfl, X2, ha, hm⟩
       have hS2 := Lib.hid (hS.out.step ha hm)
       have hS3 := Lib.hid (hS2.out.more (Gr.alloc1 w2 (.cells #[.int .u8 1] 5)))
       have HW := Lib.hid (write_any hS3.out.at_ ⟨Nat.zero_le _, Nat.zero_le _⟩ jn (by decide) (some ⟨w2.heap.size, 0, none⟩) 1 1 [1] (Lib.hid rfl) (Rd.of_row' (t := 5) (Row.new w2 5 [.int .u8 1])) (by omega))
       rw [kn1_eq] at HW
       clear ha hm HC hS hS2)
    | (go_at_call 17; refine HW.out.mono ?_; rintro e w4 ⟨rfl, X4, ha, hm⟩
       have hS4 := Lib.hid (hS3.out.step ha hm)
       have HR := Lib.hid (recover_any hS4.out.at_ ⟨by decide, by decide⟩)
       rw [kn2_eq] at HR
       clear HW hS3 ha hm)
    | (go_at_call 22; refine HR.out.mono ?_; rintro e w5 ⟨rfl, X5, ha, hm⟩
       have hS5 := Lib.hid (hS4.out.step ha hm)
       have HN := Lib.hid (names_any hS5.out.at_ ⟨by decide, by decide⟩)
       clear HR hS4 ha hm)
    | (go_at_call 23; refine HN.out.mono ?_; rintro e w6 ⟨A6, n6, c6, rfl, rfl, ho, hg⟩
       have hS6 := Lib.hid (hS5.out.more hg)
       clear HN ho hg hS5))
  go_ret
  exact ⟨rfl, hS6.out.gr⟩
end Go.Proofs.Ytcfbkhgdlgnmgaa
set_option linter.unusedVariables false
set_option linter.unusedSimpArgs false
set_option maxRecDepth 100000
namespace Go.Proofs.Ytcfbkhgdlgnmgaa
open Go.RowKit Go.Maps Go.Sort
attribute [local go_sem] Vc.known_tmp Vc.known_const Vc.known_func Vc.known_global Vc.lk Vc.okUpon Vc.Fact.holds
section
variable {X Z Z2 : Nat → Prop} {w w' : World} {p : Nat} {s : V} {A B : Option Addr} {rs ts : List FlR}
end
end Go.Proofs.Ytcfbkhgdlgnmgaa
set_option linter.unusedVariables false
set_option linter.unusedSimpArgs false
namespace Go.Proofs.Ytcfbkhgdlgnmgaa
open Go.RowKit Cd
structure Gd (l : List Fl) : Prop where
  nm : l.map (·.1) = strs4.take l.length
  ln : l.length ≤ 4
  sm : ∀ f ∈ l, f.2.length ≤ 60
theorem goodR_map (rs : List FlR) {n : Nat} (h : n ≤ 4) : Gd ((goodR rs n).map FlR.fl) := by
  have hl : ((goodR rs n).map FlR.fl).length = n := by rw [List.length_map, goodR_len]
  refine ⟨?_, by rw [hl]; exact h, fun f hf => ?_⟩
  · rw [hl]
    refine List.ext_getElem? (fun i => ?_)
    unfold goodR nmA
    rw [List.map_map, List.map_map, List.getElem?_map, List.getElem?_take]
    by_cases hi : i < n
    · rw [List.getElem?_range hi, if_pos hi]
      show some (strs4.getD i []) = _
      rw [List.getD_eq_getElem?_getD, List.getElem?_eq_getElem (show i < strs4.length by show i < 4; omega)]
      rfl
    · rw [if_neg hi, List.getElem?_eq_none (by simp; omega)]
      rfl
  · obtain ⟨g, hg, rfl⟩ := List.mem_map.1 hf
    unfold goodR at hg
    obtain ⟨i, hi, rfl⟩ := List.mem_map.1 hg
    show (List.take 60 _).length ≤ 60
    rw [List.length_take]
    omega
theorem Gd.nil : Gd [] := ⟨rfl, by simp, fun f hf => by cases hf⟩
theorem Gd.mem {l : List Fl} (h : Gd l) {f : Fl} (hf : f ∈ l) : f.1 ∈ strs4 := by
  have : f.1 ∈ l.map (·.1) := List.mem_map.2 ⟨f, hf, rfl⟩
  rw [h.nm] at this
  exact List.mem_of_mem_take this
theorem strs4_ok : ∀ n ∈ strs4, nameBad n = false ∧ n ≠ jn ∧ n ≠ mk ∧ n.length ≤ 1 := by decide
theorem Gd.bytes {l : List Fl} (h : Gd l) : (bytesM l).length ≤ 700 := by
  have key : ∀ (l : List Fl), (∀ f ∈ l, f.1.length ≤ 20 ∧ f.2.length ≤ 60) → (l.flatMap fun f => textB f.1 ++ textB f.2).length ≤ l.length * 84 := by
    intro l
    induction l with
    | nil => simp
    | cons f l ih =>
      intro hh
      have h1 := ih (fun g hg => hh g (by simp [hg]))
      have h2 := hh f (by simp)
      rw [List.flatMap_cons, List.length_append, List.length_append, textB_length (by omega), textB_length (by omega), List.length_cons]
      omega
  have := key l (fun f hf => ⟨by have := (strs4_ok _ (h.mem hf)).2.2.2; omega, h.sm f hf⟩)
  have := h.ln
  unfold bytesM
  rw [List.length_cons]
  omega
theorem sum_le {α : Type} (g : α → Nat) (M : Nat) : ∀ l : List α, (∀ x ∈ l, g x ≤ M) → (l.map g).sum ≤ l.length * M
  | [], _ => by simp
  | x :: l, h => by
    have h1 := sum_le g M l (fun y hy => h y (by simp [hy]))
    have h2 := h x (by simp)
    rw [List.map_cons, List.sum_cons, List.length_cons, Nat.add_mul]
    omega
theorem Gd.used {l : List Fl} (h : Gd l) : Files.used l ≤ 240 := by
  have := sum_le (fun p : Str × Str => p.2.length) 60 l h.sm
  have := h.ln
  unfold Files.used
  omega
end Go.Proofs.Ytcfbkhgdlgnmgaa
set_option linter.unusedVariables false
set_option linter.unusedSimpArgs false
set_option maxRecDepth 100000
namespace Go.Proofs.Ytcfbkhgdlgnmgaa
open Go.RowKit
section
variable {X : Nat → Prop} {w0 W : World} {p : Nat} {s v' : V} {e0 : Int} {A B : Option Addr} {rs ts : List FlR}
theorem sv_new (r : Int) (w : World) : Calls Try.prog 16 #[.int .i64 r] w fun e w' => ∃ p X, e = .returned (.pointer (some ⟨p, 0, none⟩)) ∧ Sv w w' X p (V.new r) := by
  refine (new_any r w).mono ?_
  rintro e w1 ⟨p, X, rfl, ha, hg, hx⟩
  exact ⟨p, X, rfl, Sv.new ha hg hx⟩
end
end Go.Proofs.Ytcfbkhgdlgnmgaa
set_option linter.unusedVariables false
set_option linter.unusedSimpArgs false
namespace Go.Proofs.Ytcfbkhgdlgnmgaa
open Go.RowKit Cd
theorem thn_ops {r : V × Int} {f : V → V × Int} {a b k : Nat} (h : r.1.ops ≤ a ∧ r.1.stop ≤ b) (hf : ∀ v, (f v).1.ops ≤ v.ops + k ∧ (f v).1.stop ≤ v.stop) : (V.thn r f).1.ops ≤ a + k ∧ (V.thn r f).1.stop ≤ b := by
  unfold V.thn
  split
  · exact ⟨by omega, h.2⟩
  · have := hf r.1
    exact ⟨by omega, by omega⟩
theorem writeM_ops (s : V) (l : List Fl) : (writeM s l).1.ops ≤ s.ops + (l.length + 5) ∧ (writeM s l).1.stop ≤ s.stop := by
  have := thn_ops (thn_ops (thn_ops (writeAll_ops l s) (fun v => ⟨flush_ops v, flush_stop v⟩)) (fun v => awayM_ops v mk)) (fun v => awayM_ops v jn)
  unfold writeM
  exact ⟨by omega, this.2⟩
theorem commitM_ops (s : V) (l : List Fl) : (commitM s l).1.ops ≤ s.ops + (l.length + 9) ∧ (commitM s l).1.stop ≤ s.stop := by
  unfold commitM
  split
  · exact ⟨by simp only; omega, Nat.le_refl _⟩
  · split
    · exact ⟨by simp only; omega, Nat.le_refl _⟩
    · have := thn_ops (thn_ops (putM_ops s jn (bytesM l)) (fun v => putM_ops v mk [])) (fun v => writeM_ops v l)
      exact ⟨by omega, this.2⟩
theorem readM_len {b : Str} (h : ¬ (readM b).2 ≠ 0) : (readM b).1.length ≤ 8 := by
  unfold readM at h ⊢
  simp only at h ⊢
  split
  · simp
  · rename_i h1
    have := mayM_zero (Decidable.of_not_not fun hh => h1 (.inr hh))
    simp only
    omega
theorem recoverM_ops (s : V) : (recoverM s).1.ops ≤ s.ops + 20 ∧ (recoverM s).1.stop ≤ s.stop := by
  unfold recoverM
  split
  · exact ⟨by simp only; omega, Nat.le_refl _⟩
  · split
    · exact ⟨by simp only; omega, Nat.le_refl _⟩
    · have := awayM_ops s jn
      exact ⟨by omega, this.2⟩
    · exact ⟨by simp only; omega, Nat.le_refl _⟩
    · split
      · exact ⟨by simp only; omega, Nat.le_refl _⟩
      · rename_i h1
        have := readM_len h1
        exact ⟨Nat.le_trans (writeM_ops s _).1 (by omega), (writeM_ops s _).2⟩
structure Ins (old now : List Fl) (dn : Bool) (v : V) : Prop where
  cl : Clean v.now v
  du : Dur 60 old now v.now
  dd : dn = true → DurA (putAll old now) v.now
  room : v.room = 5000
end Go.Proofs.Ytcfbkhgdlgnmgaa
set_option linter.unusedVariables false
set_option linter.unusedSimpArgs false
set_option maxRecDepth 100000
namespace Go.Proofs.Ytcfbkhgdlgnmgaa
open Go.RowKit
structure Sz (w0 wg : World) (Xg : Nat → Prop) (W : World) (X : Nat → Prop) (p : Nat) (s : V) : Prop where
  sv : Sv w0 W X p s
  mv : Mv wg Xg W X
section
variable {X X' Xg Z Z2 : Nat → Prop} {w0 wg W W' : World} {p : Nat} {s s' v' : V} {e0 : Int} {A B : Option Addr} {rs ts : List FlR}
theorem Sz.step (h : Sz w0 wg Xg W X p s) (ha : At W' X' p s') (hm : Mv W X W' X') : Sz w0 wg Xg W' X' p s' := ⟨h.sv.step ha hm, h.mv.trans hm⟩
theorem Sz.more (h : Sz w0 wg Xg W X p s) (hg : Gr W W') : Sz w0 wg Xg W' X p s := ⟨h.sv.more hg, h.mv.trans (Mv.of_gr hg X)⟩
theorem Sz.fls (h : Sz w0 wg Xg W X p s) (hf : FlS wg Z A rs) (hz : ∀ i, Z i → ¬ Xg i ∧ i < wg.heap.size) : FlS W Z A rs := hf.tr h.mv.tr (fun i hi => (hz i hi).1)
theorem good_z (h : FlS W Z A rs) (hz : ∀ i, Z i → i < W.heap.size) (n c : Nat) (hn : rs.length = n) (k : Nat) (hk : k ≤ 4) (hl : n ≤ 10) :
    Calls Try.prog 12 #[.slice A n c, .int .i64 k] W fun e w' => ∃ A' c' gs, e = .returned (.slice A' (min n k) c') ∧ gs.length = min n k ∧ min n k ≤ c' ∧ FlS w' (fun i => (Z i ∨ W.heap.size ≤ i) ∧ i < w'.heap.size) A' gs ∧ Gd (gs.map FlR.fl) ∧ (∀ f ∈ gs, f.q.n ≤ 60) ∧ Gr W w' := by
  subst hn
  refine (good_any h hz c k hk (by unfold maxLen; omega)).mono ?_
  rintro e w' ⟨A', c', rfl, hf, hg⟩
  refine ⟨A', c', _, rfl, goodR_len _ _, hf.own.le.1, hf.fls.mono (fun i hi => ⟨?_, hi.2⟩), goodR_map rs (by omega), fun f hf' => ?_, hg⟩
  · rcases hi.1 with h1 | h1
    · exact .inl h1
    · exact .inr (hf.own.blk i h1).1
  · unfold goodR at hf'
    obtain ⟨i, _, rfl⟩ := List.mem_map.1 hf'
    exact Nat.min_le_right _ _
end
end Go.Proofs.Ytcfbkhgdlgnmgaa
set_option linter.unusedVariables false
set_option linter.unusedSimpArgs false
set_option maxRecDepth 100000
namespace Go.Proofs.Ytcfbkhgdlgnmgaa
open Go.RowKit Go.Maps Go.Sort
structure Sy (w0 wg : World) (Yg : Nat → Prop) (W : World) (X R : Nat → Prop) (p q : Nat) (a b : V) : Prop where
  sr : SR w0 W X R p q a b
  mv : Mv wg Yg W (fun i => X i ∨ R i)
section
variable {X X' R R' Yg Z : Nat → Prop} {w0 wg W W' : World} {p q : Nat} {a b a' b' s : V} {A : Option Addr} {rs : List FlR} {l : List Fl}
theorem Mv.left (hm : Mv W X W' X') (hr : ∀ i, R i → i < W.heap.size) : Mv W (fun i => X i ∨ R i) W' (fun i => X' i ∨ R i) :=
  ⟨hm.tr.mono (fun i _ h => .inl h), fun i h => h.imp (hm.more i) id, fun i h => by
    rcases h with h | h
    · exact (hm.new i h).imp .inl id
    · exact .inl (.inr h)⟩
theorem Mv.right (hm : Mv W R W' R') (hx : ∀ i, X i → i < W.heap.size) : Mv W (fun i => X i ∨ R i) W' (fun i => X i ∨ R' i) :=
  ⟨hm.tr.mono (fun i _ h => .inr h), fun i h => h.imp id (hm.more i), fun i h => by
    rcases h with h | h
    · exact .inl (.inl h)
    · exact (hm.new i h).imp .inr id⟩
theorem Sy.stepV (h : Sy w0 wg Yg W X R p q a b) (ha : At W' X' p a') (hm : Mv W X W' X') : Sy w0 wg Yg W' X' R p q a' b := ⟨h.sr.stepV ha hm, h.mv.trans (hm.left h.sr.x.lt)⟩
theorem Sy.stepX (h : Sy w0 wg Yg W X R p q a b) (ha : RAt W' R' q b') (hm : Mv W R W' R') : Sy w0 wg Yg W' X R' p q a b' := ⟨h.sr.stepX ha hm, h.mv.trans (hm.right h.sr.v.at_.lt)⟩
theorem Sy.more (h : Sy w0 wg Yg W X R p q a b) (hg : Gr W W') : Sy w0 wg Yg W' X R p q a b := ⟨h.sr.more hg, h.mv.trans (Mv.of_gr hg _)⟩
theorem Sy.fls (h : Sy w0 wg Yg W X R p q a b) (hf : FlS wg Z A rs) (hz : ∀ i, Z i → ¬ Yg i ∧ i < wg.heap.size) : FlS W Z A rs := hf.tr h.mv.tr (fun i hi => (hz i hi).1)
theorem Sy.lot (h : Sy w0 wg Yg W X R p q a b) (hz : ∀ i, Z i → ¬ Yg i ∧ i < wg.heap.size) : ∀ i, Z i → ¬ X i ∧ i < W.heap.size := fun i hi => ⟨fun hx => (lot_kept hz h.mv i hi).1 (.inl hx), (lot_kept hz h.mv i hi).2⟩
theorem sy_commit (hS : Sy w0 wg Yg W X R p q a b) (hd : Sd a) (hf : FlS wg Z A rs) (hz : ∀ i, Z i → ¬ Yg i ∧ i < wg.heap.size) (n c : Nat) (hn : rs.length = n) (hl : n ≤ 255) (hc : n ≤ c) (hb : ∀ f ∈ rs, f.q.n ≤ 1000000) :
    Calls Try.prog 19 #[.pointer (some ⟨p, 0, none⟩), .slice A n c] W fun e W' => e = .returned (.int .i64 (commitM a (rs.map FlR.fl)).2) ∧ ∃ X', Sy w0 wg Yg W' X' R p q (commitM a (rs.map FlR.fl)).1 b := by
  subst hn
  refine (commit_any hS.sr.v.at_ hd (hS.fls hf hz) (hS.lot hz) c hl hc hb).mono ?_
  rintro e W' ⟨rfl, X', ha, hm⟩
  exact ⟨rfl, X', hS.stepV ha hm⟩
theorem sy_rcommit (hS : Sy w0 wg Yg W X R p q a b) (hd : Sd b) (hf : Rd W A (l.flatMap frC)) (hz : 0 < l.length → ∀ ad, A = some ad → ¬ R ad.block) (n c : Nat) (hn : l.length = n) (hl : n ≤ 255) (hb : ∀ f ∈ l, f.1.length ≤ maxLen ∧ f.2.length ≤ 1000000) :
    Calls Try.prog 29 #[.pointer (some ⟨q, 0, none⟩), .slice A n c] W fun e W' => e = .returned (.int .i64 (commitM b l).2) ∧ ∃ R', Sy w0 wg Yg W' X R' p q a (commitM b l).1 := by
  subst hn
  refine (rcommit_any hS.sr.x hd hf hz c hl hb).mono ?_
  rintro e W' ⟨rfl, X', ha, hm⟩
  exact ⟨rfl, X', hS.stepX ha hm⟩
theorem sy_recover (hS : Sy w0 wg Yg W X R p q a b) (hd : Sc a) :
    Calls Try.prog 22 #[.pointer (some ⟨p, 0, none⟩)] W fun e W' => e = .returned (.int .i64 (recoverM a).2) ∧ ∃ X', Sy w0 wg Yg W' X' R p q (recoverM a).1 b := by
  refine (recover_any hS.sr.v.at_ hd).mono ?_
  rintro e W' ⟨rfl, X', ha, hm⟩
  exact ⟨rfl, X', hS.stepV ha hm⟩
theorem sy_rrecover (hS : Sy w0 wg Yg W X R p q a b) (hd : Sc b) :
    Calls Try.prog 32 #[.pointer (some ⟨q, 0, none⟩)] W fun e W' => e = .returned (.int .i64 (recoverM b).2) ∧ ∃ R', Sy w0 wg Yg W' X R' p q a (recoverM b).1 := by
  refine (rrecover_any hS.sr.x hd).mono ?_
  rintro e W' ⟨rfl, X', ha, hm⟩
  exact ⟨rfl, X', hS.stepX ha hm⟩
theorem sy_stop (hS : Sy w0 wg Yg W X R p q a b) (n : Int) :
    Calls Try.prog 25 #[.pointer (some ⟨p, 0, none⟩), .int .i64 n] W fun e W' => e = .returned (.tuple #[]) ∧ Sy w0 wg Yg W' X R p q (a.stopAt n) b := by
  refine (stop_any hS.sr.v.at_ n).mono ?_
  rintro e W' ⟨rfl, ha, hm⟩
  exact ⟨rfl, hS.stepV ha hm⟩
theorem sy_rstop (hS : Sy w0 wg Yg W X R p q a b) (n : Int) :
    Calls Try.prog 28 #[.pointer (some ⟨q, 0, none⟩), .int .i64 n] W fun e W' => e = .returned (.tuple #[]) ∧ Sy w0 wg Yg W' X R p q a (b.stopAt n) := by
  refine (rstop_any hS.sr.x n).mono ?_
  rintro e W' ⟨rfl, ha, hm⟩
  exact ⟨rfl, hS.stepX ha hm⟩
theorem sy_crash (hS : Sy w0 wg Yg W X R p q a b) (hs : Sm a) (n c : Nat) (ks : List Int) (hn : Hid (ks.length = n)) (hr : Rd W A (ks.map iv)) (hz : 0 < n → ∀ ad, A = some ad → ¬ X ad.block) (hl : n ≤ 9223372036854775807) :
    Calls Try.prog 26 #[.pointer (some ⟨p, 0, none⟩), .slice A n c] W fun e W' => e = .returned (.tuple #[]) ∧ ∃ X', Sy w0 wg Yg W' X' R p q (a.crash ks) b := by
  refine (crash_any hS.sr.v.at_ hs A n c ks hn hr hz hl).mono ?_
  rintro e W' ⟨rfl, X', ha, hm⟩
  exact ⟨rfl, X', hS.stepV ha hm⟩
theorem sy_rcrash (hS : Sy w0 wg Yg W X R p q a b) (hs : Sm b) (n c : Nat) (ks : List Int) (hn : Hid (ks.length = n)) (hr : Rd W A (ks.map iv)) (hl : n ≤ 9223372036854775807) :
    Calls Try.prog 31 #[.pointer (some ⟨q, 0, none⟩), .slice A n c] W fun e W' => e = .returned (.tuple #[]) ∧ ∃ R', Sy w0 wg Yg W' X R' p q a (b.crash ks) := by
  refine (rcrash_any hS.sr.x hs A n c ks hn hr hl).mono ?_
  rintro e W' ⟨rfl, X', ha, hm⟩
  exact ⟨rfl, X', hS.stepX ha hm⟩
theorem sy_same (hS : Sy w0 wg Yg W X R p q s s) (hs : Sm s) :
    Calls Try.prog 30 #[.pointer (some ⟨p, 0, none⟩), .pointer (some ⟨q, 0, none⟩)] W fun e W' => e = .returned (.bool true) ∧ Sy w0 wg Yg W' X R p q s s := by
  refine (same_any hS.sr.v.at_ hS.sr.x hs).mono ?_
  rintro e W' ⟨rfl, hg⟩
  exact ⟨rfl, hS.more hg⟩
structure In3 (wg : World) (Z : Nat → Prop) (A : Option Addr) (n c : Nat) (rs : List FlR) : Prop where
  len : rs.length = n
  le : n ≤ 10
  lec : n ≤ c
  fls : FlS wg Z A rs
  bd : ∀ f ∈ rs, f.q.n ≤ 9000
def OfV (R : Nat → Prop) (n : Nat) (l : List Fl) (v : Value) (W : World) : Prop := ∃ A c, v = .slice A n c ∧ Rd W A (l.flatMap frC) ∧ ∀ ad, A = some ad → ¬ R ad.block
theorem OfV.gr {n : Nat} {v : Value} (hg : Gr W W') (h : OfV R n l v W) : OfV R n l v W' := by
  obtain ⟨A, c, e, hr, hz⟩ := h
  exact ⟨A, c, e, hr.gr hg, hz⟩
theorem sy_of (hS : Sy w0 wg Yg W X R p q a b) {n c : Nat} (h : In3 wg Z A n c rs) (hz : ∀ i, Z i → ¬ Yg i ∧ i < wg.heap.size) :
    Calls Try.prog 14 #[.slice A n c] W fun e W' => ∃ v, e = .returned v ∧ OfV R n (rs.map FlR.fl) v W' ∧ Sy w0 wg Yg W' X R p q a b := by
  have hlen := h.len
  subst hlen
  refine (of_own (hS.fls h.fls hz) c (Nat.le_trans h.le (by omega))).mono ?_
  rintro e W' ⟨A', c', rfl, _, hr, hg, hb⟩
  exact ⟨_, rfl, ⟨A', c', rfl, hr, fun ad e hx => by have := hb ad e; have := hS.sr.x.lt _ hx; omega⟩, hS.more hg⟩
theorem In3.bounds {n c : Nat} (h : In3 wg Z A n c rs) : ∀ f ∈ rs.map FlR.fl, f.1.length ≤ maxLen ∧ f.2.length ≤ 1000000 := fun f hf => by
  obtain ⟨g, hg, rfl⟩ := List.mem_map.1 hf
  have h1 := h.fls.ok g hg
  have h2 := h.bd g hg
  have h3 := h1.1.len.out
  exact ⟨h1.2.1, by show g.q.b.length ≤ _; omega⟩
def SyG (w0 wg : World) (Yg R : Nat → Prop) (p q : Nat) (s s1 : V) : Nat → World → Prop := fun k W =>
  match k with
  | 0 => ∃ X, Sy w0 wg Yg W X R p q s s
  | 1 => ∃ X, Sy w0 wg Yg W X R p q s1 s
  | 2 => ∃ X, Sy w0 wg Yg W X R p q s1 s
  | _ => ∃ X R', Sy w0 wg Yg W X R' p q s1 s1
theorem SyG.more {s1 : V} {k : Nat} (hg : Gr W W') (h : SyG w0 wg Yg R p q s s1 k W) : SyG w0 wg Yg R p q s s1 k W' := by
  match k with
  | 0 => obtain ⟨X, h⟩ := h; exact ⟨X, h.more hg⟩
  | 1 => obtain ⟨X, h⟩ := h; exact ⟨X, h.more hg⟩
  | 2 => obtain ⟨X, h⟩ := h; exact ⟨X, h.more hg⟩
  | k + 3 => obtain ⟨X, R', h⟩ := h; exact ⟨X, R', h.more hg⟩
theorem SyG.row {s1 : V} {k : Nat} {g : Nat} {t : TypeId} {xs : List Value} (h : SyG w0 wg Yg R p q s s1 k W) (hr : Row wg g t xs) (hx : ¬ Yg g) : Row W g t xs := by
  match k with
  | 0 => obtain ⟨X, h⟩ := h; exact h.mv.tr.row hr hx
  | 1 => obtain ⟨X, h⟩ := h; exact h.mv.tr.row hr hx
  | 2 => obtain ⟨X, h⟩ := h; exact h.mv.tr.row hr hx
  | k + 3 => obtain ⟨X, R', h⟩ := h; exact h.mv.tr.row hr hx
end
end Go.Proofs.Ytcfbkhgdlgnmgaa
set_option linter.unusedVariables false
set_option linter.unusedSimpArgs false
set_option maxRecDepth 100000
namespace Go.Proofs.Ytcfbkhgdlgnmgaa.commitPlays
open Go.RowKit Go.Maps Go.Sort
attribute [local go_sem] Vc.known_tmp Vc.known_const Vc.known_func Vc.known_global Vc.lk Vc.okUpon Vc.Fact.holds
theorem info_int : (Try.prog.info? 3).map (fun i => (i.zero, i.size, i.bytes)) = some (some (.int .i64 0), 1, 8) := by kernel_rfl
theorem iv_one (ks : List Int) : ∀ u ∈ ks.map iv, u.oneCell' = true := by
  intro u hu
  obtain ⟨y, _, rfl⟩ := List.mem_map.1 hu
  rfl
structure Pl (wg : World) (Yg Zg : Nat → Prop) (gI : Nat) (A1 A2 A3 : Option Addr) (n1 n2 n3 c1 c2 c3 : Nat) (r1 r2 r3 : List FlR) : Prop where
  row : Row wg gI 22 [.slice A1 n1 c1, .slice A2 n2 c2, .slice A3 n3 c3]
  out : ¬ Yg gI
  zg : ∀ i, Zg i → ¬ Yg i ∧ i < wg.heap.size
  i1 : In3 wg Zg A1 n1 c1 r1
  i2 : In3 wg Zg A2 n2 c2 r2
  i3 : In3 wg Zg A3 n3 c3 r3
section
variable {wg : World} {Yg Zg : Nat → Prop} {gI : Nat} {A1 A2 A3 : Option Addr} {n1 n2 n3 c1 c2 c3 : Nat} {r1 r2 r3 : List FlR}
theorem Pl.at_ (h : Pl wg Yg Zg gI A1 A2 A3 n1 n2 n3 c1 c2 c3 r1 r2 r3) {k : Nat} (hk : k < 3) : ∃ A n c rs, In3 wg Zg A n c rs ∧ ∀ W', Row W' gI 22 [.slice A1 n1 c1, .slice A2 n2 c2, .slice A3 n3 c3] → W'.cell? ⟨gI, k, none⟩ = some (.slice A n c) := by
  rcases (by omega : k = 0 ∨ k = 1 ∨ k = 2) with rfl | rfl | rfl
  · exact ⟨A1, n1, c1, r1, h.i1, fun W' hr => hr.cell 0⟩
  · exact ⟨A2, n2, c2, r2, h.i2, fun W' hr => hr.cell 1⟩
  · exact ⟨A3, n3, c3, r3, h.i3, fun W' hr => hr.cell 2⟩
end
theorem start {W w4 w6 w7 w8 w9 : World} {X R : Nat → Prop} {p q : Nat} {r : Int} {A1 A2 A3 : Option Addr} {n1 n2 n3 c1 c2 c3 : Nat} {r1 r2 r3 : List FlR}
    (hW : Gr W w4) (hS : Sv w4 w6 X p (V.new r)) (hg7 : Gr w6 w7) (hx : RAt w7 R q (V.new r)) (hR : ∀ i, R i → w6.heap.size ≤ i) (hg8 : Gr w7 w8) (hg9 : Gr w8 w9)
    (l1 : r1.length = n1) (k1 : n1 ≤ 10) (d1 : n1 ≤ c1) (f1 : FlS w8 (fun i => (i < W.heap.size ∨ w7.heap.size ≤ i) ∧ i < w8.heap.size) A1 r1) (b1 : ∀ f ∈ r1, f.q.n ≤ 60)
    (l2 : r2.length = n2) (k2 : n2 ≤ 10) (d2 : n2 ≤ c2) (f2 : FlS W (fun i => i < W.heap.size) A2 r2) (b2 : ∀ f ∈ r2, f.q.n ≤ 9000)
    (l3 : r3.length = n3) (k3 : n3 ≤ 10) (d3 : n3 ≤ c3) (f3 : FlS w9 (fun i => (i < W.heap.size ∨ w8.heap.size ≤ i) ∧ i < w9.heap.size) A3 r3) (b3 : ∀ f ∈ r3, f.q.n ≤ 60) :
    ∃ wg Yg Zg, w9.alloc (.cells #[.slice A1 n1 c1, .slice A2 n2 c2, .slice A3 n3 c3] 22) = wg ∧ Pl wg Yg Zg w9.heap.size A1 A2 A3 n1 n2 n3 c1 c2 c3 r1 r2 r3 ∧ Sy w4 wg Yg wg X R p q (V.new r) (V.new r) := by
  have hga := Gr.alloc1 w9 (.cells #[.slice A1 n1 c1, .slice A2 n2 c2, .slice A3 n3 c3] 22)
  have hrow := Row.new w9 22 [.slice A1 n1 c1, .slice A2 n2 c2, .slice A3 n3 c3]
  have hwg : w9.alloc (.cells [.slice A1 n1 c1, .slice A2 n2 c2, .slice A3 n3 c3].toArray 22) = w9.alloc (.cells #[.slice A1 n1 c1, .slice A2 n2 c2, .slice A3 n3 c3] 22) := rfl
  rw [hwg] at hrow
  obtain ⟨wg, hw⟩ : ∃ wg, w9.alloc (.cells #[.slice A1 n1 c1, .slice A2 n2 c2, .slice A3 n3 c3] 22) = wg := ⟨_, rfl⟩
  rw [hw] at hga hrow
  have s1 := hW.size
  have s2 := hS.gr.size
  have s3 := hg7.size
  have s4 := hg8.size
  have s5 := hg9.size
  have s6 := hga.size
  have hXl := hS.at_.lt
  have hRl := hx.lt
  have h7g := (hg8.trans' hg9).trans' hga
  refine ⟨wg, fun i => X i ∨ R i, fun i => (i < W.heap.size ∨ w7.heap.size ≤ i) ∧ i < wg.heap.size, hw, ⟨hrow, fun h => ?_, fun i hi => ⟨fun h => ?_, hi.2⟩, ?_, ?_, ?_⟩, ⟨?_, Mv.rfl' _ _⟩⟩
  · rcases h with h | h
    · have := hXl _ h; omega
    · have := hRl _ h; omega
  · rcases h with h | h
    · have := hXl _ h; have := hS.hi _ h; omega
    · have := hRl _ h; have := hR _ h; omega
  · exact ⟨l1, k1, d1, (f1.gr (hg9.trans' hga)).mono (fun i hi => ⟨hi.1, by omega⟩), fun f hf => by have := b1 f hf; omega⟩
  · exact ⟨l2, k2, d2, (f2.gr (((hW.trans' hS.gr).trans' hg7).trans' h7g)).mono (fun i hi => ⟨.inl hi, by omega⟩), b2⟩
  · exact ⟨l3, k3, d3, (f3.gr hga).mono (fun i hi => ⟨hi.1.imp id (fun h => by omega), by omega⟩), fun f hf => by have := b3 f hf; omega⟩
  · exact ⟨(hS.more hg7).more h7g, hx.gr h7g, fun i hi => Nat.le_trans s2 (hR i hi), fun i h1 h2 => by have := hXl _ h1; have := hR _ h2; omega⟩
set_option maxHeartbeats 16000000 in
theorem walk0 (W : World) (x0 : Int) (b00 : -9223372036854775808 ≤ x0) (b01 : x0 ≤ 9223372036854775807)
    (a1 : Option Addr) (n1 c1 : Nat) (x1 : List FlR) (hn1 : Hid (x1.length = n1)) (hf1 : FlS W (fun i => i < W.heap.size) a1 x1) (hl1 : n1 ≤ c1) (hc1 : c1 ≤ maxLen)
    (a2 : Option Addr) (n2 c2 : Nat) (x2 : List FlR) (hn2 : Hid (x2.length = n2)) (hf2 : FlS W (fun i => i < W.heap.size) a2 x2) (hl2 : n2 ≤ c2) (hc2 : c2 ≤ maxLen)
    (a3 : Option Addr) (n3 c3 : Nat) (x3 : List FlR) (hn3 : Hid (x3.length = n3)) (hf3 : FlS W (fun i => i < W.heap.size) a3 x3) (hl3 : n3 ≤ c3) (hc3 : c3 ≤ maxLen)
    (x4 : Int) (b40 : -9223372036854775808 ≤ x4) (b41 : x4 ≤ 9223372036854775807)
    (a5 : Option Addr) (n5 c5 : Nat) (x5 : List Int) (hn5 : Hid (x5.length = n5)) (hr5 : Rd W a5 (x5.map iv)) (hb5 : ∀ z ∈ x5, -9223372036854775808 ≤ z ∧ z ≤ 9223372036854775807) (hl5 : n5 ≤ c5) (hc5 : c5 ≤ maxLen)
    (a6 : Option Addr) (n6 c6 : Nat) (x6 : List Int) (hn6 : Hid (x6.length = n6)) (hr6 : Rd W a6 (x6.map iv)) (hb6 : ∀ z ∈ x6, -9223372036854775808 ≤ z ∧ z ≤ 9223372036854775807) (hl6 : n6 ≤ c6) (hc6 : c6 ≤ maxLen) (hk5 : n5 * 8 ≤ 140737488351232) (hfw1 : FewM x1) (hfw2 : FewM x2) (hfw3 : FewM x3) :
    Calls Try.prog 9 #[.int .i64 x0, .slice a1 n1 c1, .slice a2 n2 c2, .slice a3 n3 c3, .int .i64 x4, .slice a5 n5 c5, .slice a6 n6 c6] W fun e W' => e = .returned (.bool true) ∧ Gr W W' := by
  have hle1 : n1 ≤ 10 := by have := hfw1.2; have := hn1.out; omega
  have hle2 : n2 ≤ 10 := by have := hfw2.2; have := hn2.out; omega
  have hle3 : n3 ≤ 10 := by have := hfw3.2; have := hn3.out; omega
  have HK := Lib.hid (known_any W)
  have HF1 := Lib.hid (fun W1 (hg : Gr W W1) => hn1.out ▸ few_any (hf1.gr hg) c1 (by have := hn1.out; unfold maxLen; omega))
  have HF2 := Lib.hid (fun W1 (hg : Gr W W1) => hn2.out ▸ few_any (hf2.gr hg) c2 (by have := hn2.out; unfold maxLen; omega))
  have HF3 := Lib.hid (fun W1 (hg : Gr W W1) => hn3.out ▸ few_any (hf3.gr hg) c3 (by have := hn3.out; unfold maxLen; omega))
  rw [decide_eq_true hfw1] at HF1
  rw [decide_eq_true hfw2] at HF2
  rw [decide_eq_true hfw3] at HF3
  have HG1 := Lib.hid (fun W1 (hg : Gr W W1) => good_z (hf1.gr hg) (fun i hi => Nat.lt_of_lt_of_le hi hg.size) n1 c1 hn1.out 4 (by omega) hle1)
  have HG2 := Lib.hid (fun W1 (hg : Gr W W1) => good_z (hf2.gr hg) (fun i hi => Nat.lt_of_lt_of_le hi hg.size) n2 c2 hn2.out 4 (by omega) hle2)
  have HW0 := Lib.hid (fun W => within1_any x0 600 W b00 b01 (by omega) (by omega))
  have HW4 := Lib.hid (fun W => within1_any x4 16 W b40 b41 (by omega) (by omega))
  have k00 := Int.emod_nonneg x0 (show (600 : Int) ≠ 0 by omega)
  have k01 := Int.emod_lt_of_pos x0 (show (0 : Int) < 600 by omega)
  have k40 := Int.emod_nonneg x4 (show (16 : Int) ≠ 0 by omega)
  have k41 := Int.emod_lt_of_pos x4 (show (0 : Int) < 16 by omega)
  obtain ⟨r0, hr0⟩ : ∃ r, x0 % 600 = r := ⟨_, rfl⟩
  obtain ⟨N4, hN4⟩ : ∃ r, x4 % 16 = r := ⟨_, rfl⟩
  rw [hr0] at HW0 k00 k01
  rw [hN4] at HW4 k40 k41
  have HX := Lib.hid (fun r W => rnew_any r W)
  have HV := Lib.hid (fun r W => sv_new r W)
  have hraw := Lib.hid (And.intro hn3.out (And.intro hle3 (And.intro hl3 (And.intro hf3 (fun f hf => (hfw3.1 f hf).1)))))
  have hk5l := Lib.hid (show (x5.map iv).length = n5 * 1 by rw [List.length_map, hn5.out, Nat.mul_one])
  obtain ⟨j0, hj0, hy0, hy1, hy2⟩ := info_parts info_int
  replace hr5 := Lib.hid hr5
  replace hr6 := Lib.hid hr6
  replace hb6 := Lib.hid hb6
  clear hn1 hf1 hn2 hf2 hn3 hf3 hfw1 hfw2 hfw3 hr0 hN4 hb5 hl1 hc1 hl2 hc2 hl3 hc3 b00 b01 b40 b41
  go_enter Try.func9, Try.ntmps9
  go_wp2_with (first
    | (go_at_call 10; refine (HK.out).mono ?_; rintro e w1 ⟨rfl, hg1⟩; have hga := Lib.hid hg1; clear hg1)
    | (go_at_call 11; refine (HF3.out _ hgc.out).mono ?_; rintro e w4 ⟨rfl, hw4⟩; subst hw4)
    | (go_at_call 11; refine (HF2.out _ hgb.out).mono ?_; rintro e w3 ⟨rfl, hw3⟩; subst hw3; have hgc := hgb)
    | (go_at_call 11; refine (HF1.out _ hga.out).mono ?_; rintro e w2 ⟨rfl, hw2⟩; subst hw2; have hgb := hga)
    | (go_at_call 15; refine (HW0.out _).mono ?_; rintro e w5 ⟨rfl, hw5⟩; subst hw5; clear HF1 HF2 HF3 HK HW0)
    | (go_at_call 16; refine (HV.out _ _).mono ?_; rintro e w6 ⟨p, X6, rfl, hS6⟩; replace hS6 := Lib.hid hS6)
    | (go_at_call 27; refine (HX.out _ _).mono ?_; rintro e w7 ⟨q, R7, rfl, hx7, hg7, hR7⟩
       have hg7' := Lib.hid ((hgc.out.trans' hS6.out.gr).trans' hg7)
       replace hx7 := Lib.hid (And.intro hx7 (And.intro hg7 hR7))
       clear hg7 hR7)
    | (go_at_call 12; refine (HG2.out _ hg8'.out).mono ?_; rintro e w9 ⟨A9, c9, hs, rfl, hgl, hc9, hf9, _, hgb, hg9⟩
       generalize hk : min n2 4 = k2 at *
       have hF9 := Lib.hid (And.intro hgl (And.intro (show k2 ≤ 10 by omega) (And.intro hc9 (And.intro hf9 (And.intro hgb hg9)))))
       clear hgl hc9 hf9 hgb hg9 hk)
    | (go_at_call 12; refine (HG1.out _ hg7'.out).mono ?_; rintro e w8 ⟨A8, c8, gs, rfl, hgl, hc8, hf8, _, hgb, hg8⟩
       generalize hk : min n1 4 = k1 at *
       have hg8' := Lib.hid (hg7'.out.trans' hg8)
       have hF8 := Lib.hid (And.intro hgl (And.intro (show k1 ≤ 10 by omega) (And.intro hc8 (And.intro hf8 (And.intro hgb hg8)))))
       clear hgl hc8 hf8 hgb hg8 hk HG1))
  obtain ⟨wg, Yg, Zg, hwg, hPl, hSy⟩ : ∃ wg Yg Zg, w9.alloc (.cells #[.slice A8 k1 c8, .slice a3 n3 c3, .slice A9 k2 c9] 22) = wg ∧ Pl wg Yg Zg w9.heap.size A8 a3 A9 k1 n3 k2 c8 c3 c9 gs x3 hs ∧ Sy w4 wg Yg wg X6 R7 p q (V.new (20 + r0)) (V.new (20 + r0)) := by
    obtain ⟨q1, q2, q3, q4, q5, q6⟩ := hF8.out
    obtain ⟨t1, t2, t3, t4, t5, t6⟩ := hF9.out
    obtain ⟨z1, z2, z3, z4, z5⟩ := hraw.out
    obtain ⟨y1, y2, y3⟩ := hx7.out
    exact start hgc.out hS6.out y2 y1 y3 q6 t6 q1 q2 q3 q4 q5 z1 z2 z3 z4 z5 t1 t2 t3 t4 t5
  rw [hwg]
  generalize w9.heap.size = gI at *
  replace hPl := Lib.hid hPl
  have hSt : Hid (∃ X R s, Sy w4 wg Yg wg X R p q s s ∧ s.ops ≤ 30 * 0 ∧ s.stop ≤ 16) := Lib.hid ⟨X6, R7, _, hSy, Nat.le_refl _, Nat.zero_le _⟩
  replace hgc := Lib.hid hgc.out
  clear hSy hF8 hF9 hraw hx7 hS6 hg7' hg8' HG2 hga hgb HX HV hwg
  go_loopw [18] (fun i wr => ∃ k : Nat, k ≤ 3 ∧ i = .int .i64 k ∧ Hid (∃ X R s, Sy w4 wg Yg wr X R p q s s ∧ s.ops ≤ 30 * k ∧ s.stop ≤ 16)) (fun i _ => 3 - (intOf i).toNat)
  case atStart => exact ⟨0, by omega, rfl, hSt⟩
  case round =>
    clear hSt
    obtain ⟨k, hk, rfl, hst⟩ := hrel
    by_cases hlt : k < 3
    · have hki : (k : Int) < 3 := by omega
      obtain ⟨X, R, s, hS, hso, hss⟩ := hst.out
      clear hst
      by_cases hk2 : k = 2
      · have hk2' : ((k : Int) == 2) = true := by simp; omega
        replace hS := Lib.hid hS
        replace hk2 := Lib.hid hk2
        go_wp2_with (first
          | (go_at_call 15; refine (HW4.out _).mono ?_; rintro e w5 ⟨rfl, hw5⟩; subst hw5)
          | (go_at_call 25; refine (sy_stop hS.out N4).mono ?_; rintro e w12 ⟨rfl, hS12⟩; replace hS12 := Lib.hid hS12)
          | (go_at_call 28; refine (sy_rstop hS12.out N4).mono ?_; rintro e w13 ⟨rfl, hS13⟩; replace hS13 := Lib.hid hS13))
        have hS3 := hS13.out
        have hs2 : (s.stopAt N4).ops ≤ 30 * k := hso
        have hs3 : (s.stopAt N4).stop ≤ 16 := by show N4.toNat ≤ 16; omega
        generalize s.stopAt N4 = s2 at hS3 hs2 hs3
        clear hS hS12 hS13 hso hss
        obtain ⟨A, n, c, rs, hI3, hck⟩ := hPl.out.at_ hlt
        have hl3' := hI3.le
        have HC := Lib.hid (fun W X (hS : Sy w4 wg Yg W X R p q s2 s2) => sy_commit hS ⟨by omega, by omega⟩ hI3.fls hPl.out.zg n c hI3.len (by omega) hI3.lec (fun f hf => by have := hI3.bd f hf; omega))
        have HO := Lib.hid (fun W X a b (hS : Sy w4 wg Yg W X R p q a b) => sy_of hS hI3 hPl.out.zg)
        have HRC := Lib.hid (fun W X a (A' : Option Addr) (c' : Nat) (hS : Sy w4 wg Yg W X R p q a s2) (hr : Rd W A' ((rs.map FlR.fl).flatMap frC)) (hz' : ∀ ad, A' = some ad → ¬ R ad.block) => sy_rcommit hS ⟨by omega, by omega⟩ hr (fun _ => hz') n c' (by rw [List.length_map, hI3.len]) (by omega) hI3.bounds)
        have hll : (rs.map FlR.fl).length = n := by rw [List.length_map, hI3.len]
        obtain ⟨l, hl⟩ : ∃ l, l = rs.map FlR.fl := ⟨_, rfl⟩
        rw [← hl] at HC HO HRC hll
        obtain ⟨r1, hr1⟩ : ∃ r, commitM s2 l = r := ⟨_, rfl⟩
        have hops := commitM_ops s2 l
        rw [hr1] at HC HRC hops
        obtain ⟨s1, e1⟩ := r1
        simp only at HC HRC hops
        rw [hll] at hops
        have HSm := Lib.hid (fun W X R' (hS : Sy w4 wg Yg W X R' p q s1 s1) => sy_same hS ⟨by omega, by omega⟩)
        have e0 : (e1 == e1) = true := by simp
        have ho1 := Lib.hid (show s1.ops ≤ 30 * (k + 1) ∧ s1.stop ≤ 16 from ⟨by omega, by omega⟩)
        replace hck := Lib.hid hck
        have hrow := Lib.hid hPl.out.row
        have hnY := Lib.hid hPl.out.out
        clear hI3 hr1 hl hops hll
        refine Vc.wp_region_facts ⟨Gr, fun _ _ _ => True, SyG w4 wg Yg R p q s2 s1, [5, 11, 12, 17]⟩ (by kernel_rfl) (by kernel_rfl) (fun _ _ _ h h' => SyG.more h h') ⟨X, (hS3).more (Gr.draw _)⟩ ?_
        repeat
          refine Vc.Walk.pure (v := ?_) (fun _ => Gr.rfl' _) rfl (by first | exact Vc.GuardYes.no rfl | exact Vc.GuardYes.yes rfl rfl) rfl rfl ?_ ?_
          rotate_left
          · intro _ W hI
            (have q0 := hck.out _ (SyG.row hI.g hrow.out hnY.out); clear hI)
            go_simp
            exact rfl
        refine Vc.Walk.call (.is (.int .i64 e1)) trivial (.no rfl) rfl rfl ?_ ?_
        · intro k0 W hI
          obtain rfl := hI.eq 0 rfl
          obtain ⟨X1, hS1⟩ := (show ∃ X, Sy w4 wg Yg W X R p q s2 s2 from hI.g)
          clear hI
          go_simp
          refine (HC.out W X1 hS1).mono ?_
          rintro e W' ⟨rfl, X2, hS2⟩
          exact ⟨_, rfl, rfl, trivial, X2, hS2⟩
        repeat
          refine Vc.Walk.pure (v := ?_) (fun _ => Gr.rfl' _) rfl (by first | exact Vc.GuardYes.no rfl | exact Vc.GuardYes.yes rfl rfl) rfl rfl ?_ ?_
          rotate_left
          · intro _ W hI
            (have q0 := hck.out _ (SyG.row hI.g hrow.out hnY.out); clear hI)
            go_simp
            exact rfl
        refine Vc.Walk.call (.fits (Vc.At 2 (OfV R n l))) (Vc.At.stable (fun u W W' hl hf => OfV.gr hl hf)) (.no rfl) rfl rfl ?_ ?_
        · intro k0 W hI
          obtain rfl := hI.eq 1 rfl
          obtain ⟨X1, hS1⟩ := (show ∃ X, Sy w4 wg Yg W X R p q s1 s2 from hI.g)
          clear hI
          go_simp
          refine (HO.out W X1 _ _ hS1).mono ?_
          rintro e W' ⟨v, rfl, hv, hS2⟩
          exact ⟨_, rfl, ⟨Nat.le_refl _, fun _ => hv⟩, trivial, X1, hS2⟩
        refine Vc.Walk.any (.is (.int .i64 e1)) trivial (.no rfl) ?_ ?_
        · intro ρ k0 W hI hf
          obtain rfl := hI.eq 2 rfl
          obtain ⟨hρ0, hρ1, ⟨_, hf1⟩, _⟩ := hf
          obtain ⟨A', c', hρ2, hrd, hz2⟩ := hf1 (Nat.le_refl _)
          have e0' : ρ (.func 29) = .func (.func 29) #[] #[] := hρ0
          have e1' : ρ (.tmp 68) = .pointer (some ⟨q, 0, none⟩) := hρ1
          have e2' : ρ (.tmp 73) = .slice A' n c' := hρ2
          obtain ⟨X1, hS1⟩ := (show ∃ X, Sy w4 wg Yg W X R p q s1 s2 from hI.g)
          clear hI hρ0 hρ1 hρ2 hf1
          go_simp
          refine (HRC.out W X1 s1 A' c' hS1 hrd hz2).mono ?_
          rintro e W' ⟨rfl, R2, hS2⟩
          exact ⟨_, rfl, rfl, trivial, X1, R2, hS2⟩
        repeat
          refine Vc.Walk.pure (v := ?_) (fun _ => Gr.rfl' _) rfl (by first | exact Vc.GuardYes.no rfl | exact Vc.GuardYes.yes rfl rfl) rfl rfl ?_ ?_
          rotate_left
          · intro _ W hI
            (clear hI)
            go_simp
            exact rfl
        refine Vc.Walk.call (.is (.bool true)) trivial (by first | exact .no rfl | exact .yes rfl rfl) rfl rfl ?_ ?_
        · intro k0 W hI
          obtain rfl := hI.eq 3 rfl
          obtain ⟨X1, R1, hS1⟩ := (show ∃ X R', Sy w4 wg Yg W X R' p q s1 s1 from hI.g)
          clear hI
          go_simp
          refine (HSm.out W X1 R1 hS1).mono ?_
          rintro e W' ⟨rfl, hS2⟩
          exact ⟨_, rfl, rfl, trivial, X1, R1, hS2⟩
        repeat
          refine Vc.Walk.pure (v := ?_) (fun _ => Gr.rfl' _) rfl (by first | exact Vc.GuardYes.no rfl | exact Vc.GuardYes.yes rfl rfl) rfl rfl ?_ ?_
          rotate_left
          · intro _ W hI
            (clear hI)
            go_simp
            exact rfl
        rintro W' ⟨X1, R1, hS1⟩
        simp only [List.reverse_cons, List.reverse_nil, List.nil_append, List.cons_append, Vc.finish, Act.put, List.setIfInBounds_toArray, List.set_cons_zero, List.set_cons_succ]
        rintro u73 _
        have hS1' := Lib.hid hS1
        clear hS1
        go_wp2_with fail
        go_roundw
        case rel => exact ⟨k + 1, by omega, by go_num, Lib.hid ⟨X1, R1, s1, hS1'.out, ho1.out⟩⟩
        case measure => simp [intOf]; omega
      · have hk2' : ((k : Int) == 2) = false := by simp; omega
        go_wp2_with fail
        obtain ⟨A, n, c, rs, hI3, hck⟩ := hPl.out.at_ hlt
        have hl3' := hI3.le
        have HC := Lib.hid (fun W X (hS : Sy w4 wg Yg W X R p q s s) => sy_commit hS ⟨by omega, by omega⟩ hI3.fls hPl.out.zg n c hI3.len (by omega) hI3.lec (fun f hf => by have := hI3.bd f hf; omega))
        have HO := Lib.hid (fun W X a b (hS : Sy w4 wg Yg W X R p q a b) => sy_of hS hI3 hPl.out.zg)
        have HRC := Lib.hid (fun W X a (A' : Option Addr) (c' : Nat) (hS : Sy w4 wg Yg W X R p q a s) (hr : Rd W A' ((rs.map FlR.fl).flatMap frC)) (hz' : ∀ ad, A' = some ad → ¬ R ad.block) => sy_rcommit hS ⟨by omega, by omega⟩ hr (fun _ => hz') n c' (by rw [List.length_map, hI3.len]) (by omega) hI3.bounds)
        have hll : (rs.map FlR.fl).length = n := by rw [List.length_map, hI3.len]
        obtain ⟨l, hl⟩ : ∃ l, l = rs.map FlR.fl := ⟨_, rfl⟩
        rw [← hl] at HC HO HRC hll
        obtain ⟨r1, hr1⟩ : ∃ r, commitM s l = r := ⟨_, rfl⟩
        have hops := commitM_ops s l
        rw [hr1] at HC HRC hops
        obtain ⟨s1, e1⟩ := r1
        simp only at HC HRC hops
        rw [hll] at hops
        have HSm := Lib.hid (fun W X R' (hS : Sy w4 wg Yg W X R' p q s1 s1) => sy_same hS ⟨by omega, by omega⟩)
        have e0 : (e1 == e1) = true := by simp
        have ho1 := Lib.hid (show s1.ops ≤ 30 * (k + 1) ∧ s1.stop ≤ 16 from ⟨by omega, by omega⟩)
        replace hck := Lib.hid hck
        have hrow := Lib.hid hPl.out.row
        have hnY := Lib.hid hPl.out.out
        clear hI3 hr1 hl hops hll
        refine Vc.wp_region_facts ⟨Gr, fun _ _ _ => True, SyG w4 wg Yg R p q s s1, [5, 11, 12, 17]⟩ (by kernel_rfl) (by kernel_rfl) (fun _ _ _ h h' => SyG.more h h') ⟨X, (hS).more (Gr.draw _)⟩ ?_
        repeat
          refine Vc.Walk.pure (v := ?_) (fun _ => Gr.rfl' _) rfl (by first | exact Vc.GuardYes.no rfl | exact Vc.GuardYes.yes rfl rfl) rfl rfl ?_ ?_
          rotate_left
          · intro _ W hI
            (have q0 := hck.out _ (SyG.row hI.g hrow.out hnY.out); clear hI)
            go_simp
            exact rfl
        refine Vc.Walk.call (.is (.int .i64 e1)) trivial (.no rfl) rfl rfl ?_ ?_
        · intro k0 W hI
          obtain rfl := hI.eq 0 rfl
          obtain ⟨X1, hS1⟩ := (show ∃ X, Sy w4 wg Yg W X R p q s s from hI.g)
          clear hI
          go_simp
          refine (HC.out W X1 hS1).mono ?_
          rintro e W' ⟨rfl, X2, hS2⟩
          exact ⟨_, rfl, rfl, trivial, X2, hS2⟩
        repeat
          refine Vc.Walk.pure (v := ?_) (fun _ => Gr.rfl' _) rfl (by first | exact Vc.GuardYes.no rfl | exact Vc.GuardYes.yes rfl rfl) rfl rfl ?_ ?_
          rotate_left
          · intro _ W hI
            (have q0 := hck.out _ (SyG.row hI.g hrow.out hnY.out); clear hI)
            go_simp
            exact rfl
        refine Vc.Walk.call (.fits (Vc.At 2 (OfV R n l))) (Vc.At.stable (fun u W W' hl hf => OfV.gr hl hf)) (.no rfl) rfl rfl ?_ ?_
        · intro k0 W hI
          obtain rfl := hI.eq 1 rfl
          obtain ⟨X1, hS1⟩ := (show ∃ X, Sy w4 wg Yg W X R p q s1 s from hI.g)
          clear hI
          go_simp
          refine (HO.out W X1 _ _ hS1).mono ?_
          rintro e W' ⟨v, rfl, hv, hS2⟩
          exact ⟨_, rfl, ⟨Nat.le_refl _, fun _ => hv⟩, trivial, X1, hS2⟩
        refine Vc.Walk.any (.is (.int .i64 e1)) trivial (.no rfl) ?_ ?_
        · intro ρ k0 W hI hf
          obtain rfl := hI.eq 2 rfl
          obtain ⟨hρ0, hρ1, ⟨_, hf1⟩, _⟩ := hf
          obtain ⟨A', c', hρ2, hrd, hz2⟩ := hf1 (Nat.le_refl _)
          have e0' : ρ (.func 29) = .func (.func 29) #[] #[] := hρ0
          have e1' : ρ (.tmp 68) = .pointer (some ⟨q, 0, none⟩) := hρ1
          have e2' : ρ (.tmp 73) = .slice A' n c' := hρ2
          obtain ⟨X1, hS1⟩ := (show ∃ X, Sy w4 wg Yg W X R p q s1 s from hI.g)
          clear hI hρ0 hρ1 hρ2 hf1
          go_simp
          refine (HRC.out W X1 s1 A' c' hS1 hrd hz2).mono ?_
          rintro e W' ⟨rfl, R2, hS2⟩
          exact ⟨_, rfl, rfl, trivial, X1, R2, hS2⟩
        repeat
          refine Vc.Walk.pure (v := ?_) (fun _ => Gr.rfl' _) rfl (by first | exact Vc.GuardYes.no rfl | exact Vc.GuardYes.yes rfl rfl) rfl rfl ?_ ?_
          rotate_left
          · intro _ W hI
            (clear hI)
            go_simp
            exact rfl
        refine Vc.Walk.call (.is (.bool true)) trivial (by first | exact .no rfl | exact .yes rfl rfl) rfl rfl ?_ ?_
        · intro k0 W hI
          obtain rfl := hI.eq 3 rfl
          obtain ⟨X1, R1, hS1⟩ := (show ∃ X R', Sy w4 wg Yg W X R' p q s1 s1 from hI.g)
          clear hI
          go_simp
          refine (HSm.out W X1 R1 hS1).mono ?_
          rintro e W' ⟨rfl, hS2⟩
          exact ⟨_, rfl, rfl, trivial, X1, R1, hS2⟩
        repeat
          refine Vc.Walk.pure (v := ?_) (fun _ => Gr.rfl' _) rfl (by first | exact Vc.GuardYes.no rfl | exact Vc.GuardYes.yes rfl rfl) rfl rfl ?_ ?_
          rotate_left
          · intro _ W hI
            (clear hI)
            go_simp
            exact rfl
        rintro W' ⟨X1, R1, hS1⟩
        simp only [List.reverse_cons, List.reverse_nil, List.nil_append, List.cons_append, Vc.finish, Act.put, List.setIfInBounds_toArray, List.set_cons_zero, List.set_cons_succ]
        rintro u73 _
        have hS1' := Lib.hid hS1
        clear hS1
        go_wp2_with fail
        go_roundw
        case rel => exact ⟨k + 1, by omega, by go_num, Lib.hid ⟨X1, R1, s1, hS1'.out, ho1.out⟩⟩
        case measure => simp [intOf]; omega
    · obtain rfl : k = 3 := by omega
      have hki : ¬ ((3 : Nat) : Int) < 3 := by omega
      clear hlt
      go_wp2_with fail
      go_loopw [19] (fun i wr => ∃ j : Nat, j ≤ 5 ∧ j ≤ n6 ∧ i = .int .i64 j ∧ Hid (∃ X R s, Sy w4 wg Yg wr X R p q s s ∧ s.ops ≤ 90 + 30 * j ∧ s.stop ≤ 16)) (fun i _ => 5 - (intOf i).toNat)
      case atStart => exact ⟨0, by omega, by omega, rfl, hst⟩
      case round =>
        clear hst
        obtain ⟨j, hj5, hjn, rfl, hst⟩ := hrel
        by_cases h6 : j < n6
        · by_cases h5 : j < 5
          · have hjl : j < x6.length := by have := hn6.out; omega
            have h6i : (j : Int) < n6 := by omega
            have h5i : (j : Int) < 5 := by omega
            obtain ⟨X, R, s, hS, hso, hss⟩ := hst.out
            clear hst
            obtain ⟨g, off, rfl, hx6⟩ := hr6.out.spot (by rw [List.length_map]; omega)
            have hxc := hx6 j (iv x6[j]) (by rw [List.getElem?_map, List.getElem?_eq_getElem hjl]; rfl)
            obtain ⟨hz0, hz1⟩ := hb6.out _ (List.getElem_mem hjl)
            have HWj := Lib.hid (fun W => within1_any x6[j] 10 W hz0 hz1 (by omega) (by omega))
            have k60 := Int.emod_nonneg x6[j] (show (10 : Int) ≠ 0 by omega)
            have k61 := Int.emod_lt_of_pos x6[j] (show (0 : Int) < 10 by omega)
            unfold iv at hxc
            generalize x6[j] = zj at *
            obtain ⟨N6, hN6⟩ : ∃ r, zj % 10 = r := ⟨_, rfl⟩
            rw [hN6] at HWj k60 k61
            have hXl := hS.sr.v.at_.lt
            have hcr : (s.crash x5).ops ≤ 90 + 30 * j := hso
            have hcs : (s.crash x5).stop ≤ 16 := Nat.zero_le _
            have HCr := Lib.hid (fun W A c (hS : Sy w4 wg Yg W X R p q s s) (hr : Rd W A (x5.map iv)) (hz : ∀ ad, A = some ad → ¬ X ad.block) => sy_crash hS ⟨by omega, by omega⟩ n5 c x5 hn5 hr (fun _ => hz) (by omega))
            have HXr := Lib.hid (fun W X (hS : Sy w4 wg Yg W X R p q (s.crash x5) s) => sy_rcrash hS ⟨by omega, by omega⟩ n5 c5 x5 hn5 ((hr5.out.gr hgc.out).gr hS.sr.v.gr) (by omega))
            generalize s.crash x5 = s1 at *
            have hso2 : (s1.stopAt N6).ops ≤ 90 + 30 * j := hcr
            have hss2 : (s1.stopAt N6).stop ≤ 16 := by show N6.toNat ≤ 16; omega
            have HRv := Lib.hid (fun W X R (hS : Sy w4 wg Yg W X R p q (s1.stopAt N6) (s1.stopAt N6)) => sy_recover hS ⟨by omega, by omega⟩)
            have HRx := Lib.hid (fun W X R a (hS : Sy w4 wg Yg W X R p q a (s1.stopAt N6)) => sy_rrecover hS ⟨by omega, by omega⟩)
            have hro := recoverM_ops (s1.stopAt N6)
            obtain ⟨r3, hr3⟩ : ∃ r, recoverM (s1.stopAt N6) = r := ⟨_, rfl⟩
            rw [hr3] at HRv HRx hro
            obtain ⟨s3, e3⟩ := r3
            simp only at HRv HRx hro
            have HSm := Lib.hid (fun W X R' (hS : Sy w4 wg Yg W X R' p q s3 s3) => sy_same hS ⟨by omega, by omega⟩)
            have e0 : (e3 == e3) = true := by simp
            have ho3 := Lib.hid (show s3.ops ≤ 90 + 30 * (j + 1) ∧ s3.stop ≤ 16 from ⟨by omega, by omega⟩)
            have hcl := Lib.hid (fun W' (hg : Gr wr W') => ((hgc.out.trans' hS.sr.v.gr).trans' hg))
            have hcell := Lib.hid (fun W' X' R' a b (hS' : Sy w4 wg Yg W' X' R' p q a b) => show W'.cell? ⟨g, off + j, none⟩ = some (.int .i64 zj) from hS'.sr.v.gr.cell (hgc.out.cell hxc))
            have hS' := Lib.hid hS
            replace hXl := Lib.hid hXl
            replace hro := Lib.hid hro
            clear hx6 hz0 hz1 hN6 hcr hcs hr3 hso2 hss2 hso hss hS hxc
            go_wp2_with (first
              | (at_builtin; with_reducible refine wpList_append (o := ⟨some 95, _, _, _, _, _⟩) _ rfl _ _ 49 rfl wr.heap.size 3 j0 _ 1 8 Try.underlying49 hj0 hy0 hy1 hy2 rfl (by omega) (some ⟨wr.heap.size, 0, none⟩) 0 0 [] rfl (Own.empty wr _ 1) a5 n5 c5 (x5.map iv) rfl hk5l.out (hr5.out.gr (hcl.out _ (Gr.alloc1 _ _))) (iv_one x5) (by omega) (by unfold maxLen; omega) (Gr.alloc1 wr _).size ?_
                 intro A20 c20 w20 ho20 hk20
                 have hg20 := Gr.grownBk (Gr.alloc1 wr _) hk20.grown (fun g e => by injection e with e; rw [← e]; exact Nat.le_refl _)
                 rw [Nat.zero_add, List.nil_append] at ho20
                 have HCr2 := Lib.hid (HCr.out w20 A20 c20 (hS'.out.more hg20) ho20.rd (fun ad e hx => by have := (ho20.blk ad.block (by rw [e]; rfl)).1; have := hXl.out _ hx; omega))
                 clear ho20 hk20 hg20 HCr)
              | (go_at_call 26; refine HCr2.out.mono ?_; rintro e w21 ⟨rfl, X21, hS21⟩; replace hS21 := Lib.hid hS21; clear HCr2)
              | (go_at_call 31; refine (HXr.out _ _ hS21.out).mono ?_; rintro e w22 ⟨rfl, R22, hS22⟩; have y22 := hcell.out _ _ _ _ _ hS22; replace hS22 := Lib.hid hS22; clear HXr)
              | (go_at_call 15; refine (HWj.out _).mono ?_; rintro e w5 ⟨rfl, hw5⟩; subst hw5)
              | (go_at_call 25; refine (sy_stop hS22.out N6).mono ?_; rintro e w23 ⟨rfl, hS23⟩; have y23 := hcell.out _ _ _ _ _ hS23; replace hS23 := Lib.hid hS23)
              | (go_at_call 28; refine (sy_rstop hS23.out N6).mono ?_; rintro e w24 ⟨rfl, hS24⟩; replace hS24 := Lib.hid hS24)
              | (go_at_call 22; refine (HRv.out _ _ _ hS24.out).mono ?_; rintro e w25 ⟨rfl, X25, hS25⟩; replace hS25 := Lib.hid hS25)
              | (go_at_call 32; refine (HRx.out _ _ _ _ hS25.out).mono ?_; rintro e w26 ⟨rfl, R26, hS26⟩; replace hS26 := Lib.hid hS26)
              | (go_at_call 30; refine (HSm.out _ _ _ hS26.out).mono ?_; rintro e w27 ⟨rfl, hS27⟩; replace hS27 := Lib.hid hS27))
            go_roundw
            case rel => exact ⟨j + 1, by omega, by omega, by go_num, Lib.hid ⟨X25, R26, s3, hS27.out, ho3.out⟩⟩
            case measure => simp [intOf]; omega
          · have h6i : (j : Int) < n6 := by omega
            have h5i : ¬ (j : Int) < 5 := by omega
            have hG := Lib.hid (show Gr W wr from by obtain ⟨X, R, s, hS, _⟩ := hst.out; exact hgc.out.trans' hS.sr.v.gr)
            clear hst
            go_wp2_with fail
            go_ret
            exact ⟨rfl, hG.out⟩
        · have h6i : ¬ (j : Int) < n6 := by omega
          have hG := Lib.hid (show Gr W wr from by obtain ⟨X, R, s, hS, _⟩ := hst.out; exact hgc.out.trans' hS.sr.v.gr)
          clear hst
          go_wp2_with fail
          go_ret
          exact ⟨rfl, hG.out⟩
set_option maxHeartbeats 4000000 in
theorem walk (W : World) (x0 : Int) (b00 : -9223372036854775808 ≤ x0) (b01 : x0 ≤ 9223372036854775807)
    (a1 : Option Addr) (n1 c1 : Nat) (x1 : List FlR) (hn1 : Hid (x1.length = n1)) (hf1 : FlS W (fun i => i < W.heap.size) a1 x1) (hl1 : n1 ≤ c1) (hc1 : c1 ≤ maxLen)
    (a2 : Option Addr) (n2 c2 : Nat) (x2 : List FlR) (hn2 : Hid (x2.length = n2)) (hf2 : FlS W (fun i => i < W.heap.size) a2 x2) (hl2 : n2 ≤ c2) (hc2 : c2 ≤ maxLen)
    (a3 : Option Addr) (n3 c3 : Nat) (x3 : List FlR) (hn3 : Hid (x3.length = n3)) (hf3 : FlS W (fun i => i < W.heap.size) a3 x3) (hl3 : n3 ≤ c3) (hc3 : c3 ≤ maxLen)
    (x4 : Int) (b40 : -9223372036854775808 ≤ x4) (b41 : x4 ≤ 9223372036854775807)
    (a5 : Option Addr) (n5 c5 : Nat) (x5 : List Int) (hn5 : Hid (x5.length = n5)) (hr5 : Rd W a5 (x5.map iv)) (hb5 : ∀ z ∈ x5, -9223372036854775808 ≤ z ∧ z ≤ 9223372036854775807) (hl5 : n5 ≤ c5) (hc5 : c5 ≤ maxLen)
    (a6 : Option Addr) (n6 c6 : Nat) (x6 : List Int) (hn6 : Hid (x6.length = n6)) (hr6 : Rd W a6 (x6.map iv)) (hb6 : ∀ z ∈ x6, -9223372036854775808 ≤ z ∧ z ≤ 9223372036854775807) (hl6 : n6 ≤ c6) (hc6 : c6 ≤ maxLen) (hk5 : n5 * 8 ≤ 140737488351232) :
    Calls Try.prog 9 #[.int .i64 x0, .slice a1 n1 c1, .slice a2 n2 c2, .slice a3 n3 c3, .int .i64 x4, .slice a5 n5 c5, .slice a6 n6 c6] W fun e W' => e = .returned (.bool true) ∧ Gr W W' := by
  have HK := Lib.hid (known_any W)
  have HF1 := Lib.hid (fun W1 (hg : Gr W W1) => hn1.out ▸ few_any (hf1.gr hg) c1 (by have := hn1.out; omega))
  have HF2 := Lib.hid (fun W1 (hg : Gr W W1) => hn2.out ▸ few_any (hf2.gr hg) c2 (by have := hn2.out; omega))
  have HF3 := Lib.hid (fun W1 (hg : Gr W W1) => hn3.out ▸ few_any (hf3.gr hg) c3 (by have := hn3.out; omega))
  by_cases hfw1 : FewM x1
  · by_cases hfw2 : FewM x2
    · by_cases hfw3 : FewM x3
      · exact walk0 W x0 b00 b01 a1 n1 c1 x1 hn1 hf1 hl1 hc1 a2 n2 c2 x2 hn2 hf2 hl2 hc2 a3 n3 c3 x3 hn3 hf3 hl3 hc3 x4 b40 b41 a5 n5 c5 x5 hn5 hr5 hb5 hl5 hc5 a6 n6 c6 x6 hn6 hr6 hb6 hl6 hc6 hk5 hfw1 hfw2 hfw3
      · rw [decide_eq_true hfw1] at HF1
        rw [decide_eq_true hfw2] at HF2
        rw [decide_eq_false hfw3] at HF3
        clear hn1 hf1 hn2 hf2 hn3 hf3 hr5 hr6 hb5 hb6 hn5 hn6 hfw1 hfw2 hfw3
        go_enter Try.func9, Try.ntmps9
        go_wp2_with (first
          | (go_at_call 10; refine (HK.out).mono ?_; rintro e w1 ⟨rfl, hg1⟩; have hga := Lib.hid hg1; clear hg1)
          | (go_at_call 11; refine (HF3.out _ hgc.out).mono ?_; rintro e w4 ⟨rfl, hw4⟩; subst hw4)
          | (go_at_call 11; refine (HF2.out _ hgb.out).mono ?_; rintro e w3 ⟨rfl, hw3⟩; subst hw3; have hgc := hgb)
          | (go_at_call 11; refine (HF1.out _ hga.out).mono ?_; rintro e w2 ⟨rfl, hw2⟩; subst hw2; have hgb := hga))
        go_ret
        exact ⟨rfl, hgc.out⟩
    · rw [decide_eq_true hfw1] at HF1
      rw [decide_eq_false hfw2] at HF2
      clear hn1 hf1 hn2 hf2 hn3 hf3 hr5 hr6 hb5 hb6 hn5 hn6 hfw1 hfw2 HF3
      go_enter Try.func9, Try.ntmps9
      go_wp2_with (first
        | (go_at_call 10; refine (HK.out).mono ?_; rintro e w1 ⟨rfl, hg1⟩; have hga := Lib.hid hg1; clear hg1)
        | (go_at_call 11; refine (HF2.out _ hgb.out).mono ?_; rintro e w3 ⟨rfl, hw3⟩; subst hw3; have hgc := hgb)
        | (go_at_call 11; refine (HF1.out _ hga.out).mono ?_; rintro e w2 ⟨rfl, hw2⟩; subst hw2; have hgb := hga))
      go_ret
      exact ⟨rfl, hgc.out⟩
  · rw [decide_eq_false hfw1] at HF1
    clear hn1 hf1 hn2 hf2 hn3 hf3 hr5 hr6 hb5 hb6 hn5 hn6 hfw1 HF2 HF3
    go_enter Try.func9, Try.ntmps9
    go_wp2_with (first
      | (go_at_call 10; refine (HK.out).mono ?_; rintro e w1 ⟨rfl, hg1⟩; have hga := Lib.hid hg1; clear hg1)
      | (go_at_call 11; refine (HF1.out _ hga.out).mono ?_; rintro e w2 ⟨rfl, hw2⟩; subst hw2; have hgb := hga))
    go_ret
    exact ⟨rfl, hgb.out⟩
end Go.Proofs.Ytcfbkhgdlgnmgaa.commitPlays
set_option linter.unusedVariables false
set_option linter.unusedSimpArgs false
namespace Go.Proofs.Ytcfbkhgdlgnmgaa.commitPlays
open Go.ChangeShapes Go.WideShapes Go.ChangeAt Go.RowKit
open Go.ChangeMaps (open_string shut_string)
theorem own : ownKnob Try.prog.godebug = none := by kernel_rfl
theorem laidOut : laidOutB Try.prog = true := by kernel_rfl
theorem nums_len {H : Type} {enc : TypeId × Value → H} {P : Program} {w : World} {T E : TypeId} {a : Option Addr} {len cap : Nat} {d : DataW H} {p : List MemPlace} (hT : P.underlying T = some (.slice E)) (hE : P.underlying E = some (.int .i64)) (hC : P.cellsOf E = 1)
    (h : DataW.Trod enc P w 0 (fun _ => true) true T (.slice a len cap) d p) : len = 0 ∨ ∃ el sp, d = .slice el sp ∧ el.length = len := by
  obtain ⟨fuel, hf⟩ := h
  rcases open_ints hT hE hC hf with ⟨hcs, _⟩ | ⟨x, l, c, zs, hcs, _, hl, hm, hz, hx, _, _⟩
  · simp [Value.cells] at hcs
    exact .inl hcs.2.1
  · simp [Value.cells] at hcs
    obtain ⟨rfl, rfl, rfl⟩ := hcs
    have hzl : zs.length = cap := by simpa using hz
    rw [Prod.mk.injEq] at hx
    exact .inr ⟨_, _, hx.1, by simp [lits]; omega⟩
set_option maxRecDepth 100000 in
theorem lifted (os : Os) (started : os.Started) (H : Type) (enc : TypeId × Value → H) :
    ReturnsInHanded {} Try.checked os 9 .any (Rows.commitPlaysSpec.pre6 enc Try.prog Try.f9 Rows.commitPlaysRow.domain false) (Rows.commitPlaysSpec.post enc Try.prog Try.f9 false true false false) := by
  refine returnsInHanded_of_change_sized (C := Try.checked) own started (by kernel_rfl) Try.func9
    (ChangeSpec.witness6 (enc := enc) (C := Try.checked) false ⟨#[], #[.int .i64 0, .slice none 0 0, .slice none 0 0, .slice none 0 0, .int .i64 0, .slice none 0 0, .slice none 0 0], []⟩ 8 (by kernel_rfl) (by kernel_rfl) (by kernel_rfl) (by kernel_rfl)) ?_
  intro W base args ds gs before hval0 hW hcnd hsz0 _
  have hsz : (DataW.weightsEach Try.prog (Try.f9.params.toList ++ Rows.commitPlaysSpec.plain.varTypes Try.prog) (ds ++ gs)).all (· ≤ reachBytes) = true := hsz0
  clear hsz0
  have hval : ∀ (j : Nat) t v, Try.f9.params[j]? = some t → args[j]? = some v → Value.okWide Try.prog W .any base t v := hval0
  have hW' := hW
  obtain ⟨p, q, hA0, hV, rfl, hfz, hnd⟩ := hW
  have hA : DataW.TrodAll enc Try.prog W 0 (fun _ => true) true Try.f9.params.toList args.toList ds p := hA0
  rw [Try.params9] at hA hval hsz
  obtain ⟨v0, vs0, d0, ds0, p0, q0, hargs, rfl, rfl, h0, r0⟩ := trodAll_cons hA
  obtain ⟨v1, vs1, d1, ds1, p1, q1, rfl, rfl, rfl, h1, r1⟩ := trodAll_cons r0
  obtain ⟨v2, vs2, d2, ds2, p2, q2, rfl, rfl, rfl, h2, r2⟩ := trodAll_cons r1
  obtain ⟨v3, vs3, d3, ds3, p3, q3, rfl, rfl, rfl, h3, r3⟩ := trodAll_cons r2
  obtain ⟨v4, vs4, d4, ds4, p4, q4, rfl, rfl, rfl, h4, r4⟩ := trodAll_cons r3
  obtain ⟨v5, vs5, d5, ds5, p5, q5, rfl, rfl, rfl, h5, r5⟩ := trodAll_cons r4
  obtain ⟨v6, vs6, d6, ds6, p6, q6, rfl, rfl, rfl, h6, r6⟩ := trodAll_cons r5
  obtain ⟨rfl, rfl, rfl⟩ := trodAll_nil r6
  obtain rfl : args = #[v0, v1, v2, v3, v4, v5, v6] := by cases args; simp_all
  obtain ⟨rfl, rfl⟩ := trodVars_none hV
  have lt0 : ∀ x ∈ p0, x.block < W.heap.size := by obtain ⟨m, hm⟩ := h0; exact DataW.trod_lt m _ _ _ hm
  have k0 := h0
  have lt1 : ∀ x ∈ p1, x.block < W.heap.size := by obtain ⟨m, hm⟩ := h1; exact DataW.trod_lt m _ _ _ hm
  have k1 := h1
  have lt2 : ∀ x ∈ p2, x.block < W.heap.size := by obtain ⟨m, hm⟩ := h2; exact DataW.trod_lt m _ _ _ hm
  have k2 := h2
  have lt3 : ∀ x ∈ p3, x.block < W.heap.size := by obtain ⟨m, hm⟩ := h3; exact DataW.trod_lt m _ _ _ hm
  have k3 := h3
  have lt4 : ∀ x ∈ p4, x.block < W.heap.size := by obtain ⟨m, hm⟩ := h4; exact DataW.trod_lt m _ _ _ hm
  have k4 := h4
  have lt5 : ∀ x ∈ p5, x.block < W.heap.size := by obtain ⟨m, hm⟩ := h5; exact DataW.trod_lt m _ _ _ hm
  have k5 := h5
  have lt6 : ∀ x ∈ p6, x.block < W.heap.size := by obtain ⟨m, hm⟩ := h6; exact DataW.trod_lt m _ _ _ hm
  have k6 := h6
  obtain ⟨x0, rfl, _, _, w0⟩ := open_int Try.underlying3 (hval 0 3 v0 rfl rfl) h0
  obtain ⟨a1, n1, c1, rfl⟩ := okWide_slice Try.underlying22 (hval 1 22 v1 rfl rfl)
  obtain ⟨x1, hn1, hf1, hl1, hc1⟩ := open_files h1
  obtain ⟨a2, n2, c2, rfl⟩ := okWide_slice Try.underlying22 (hval 2 22 v2 rfl rfl)
  obtain ⟨x2, hn2, hf2, hl2, hc2⟩ := open_files h2
  obtain ⟨a3, n3, c3, rfl⟩ := okWide_slice Try.underlying22 (hval 3 22 v3 rfl rfl)
  obtain ⟨x3, hn3, hf3, hl3, hc3⟩ := open_files h3
  obtain ⟨x4, rfl, _, _, w4⟩ := open_int Try.underlying3 (hval 4 3 v4 rfl rfl) h4
  obtain ⟨a5, n5, c5, rfl⟩ := okWide_slice Try.underlying49 (hval 5 49 v5 rfl rfl)
  have hk5 : n5 * 8 ≤ 140737488351232 := by
    rcases nums_len Try.underlying49 Try.underlying3 (by kernel_rfl) h5 with h0 | ⟨el, sp, rfl, hl⟩
    · subst h0
      omega
    · have := sized_slice hsz (j := 5) (t := 49) (e := 3) (elems := el) (spare := sp) rfl rfl Try.underlying49
      rw [show Try.prog.bytesOf 3 = 8 from by kernel_rfl] at this
      unfold reachBytes at this
      omega
  obtain ⟨x5, hn5, hr5, hb5, hl5, hc5⟩ := open_nums Try.underlying49 Try.underlying3 (by kernel_rfl) h5
  obtain ⟨a6, n6, c6, rfl⟩ := okWide_slice Try.underlying49 (hval 6 49 v6 rfl rfl)
  obtain ⟨x6, hn6, hr6, hb6, hl6, hc6⟩ := open_nums Try.underlying49 Try.underlying3 (by kernel_rfl) h6
  clear hA0 hval0
  refine (walk W x0 (int_bounds w0).1 (int_bounds w0).2 a1 n1 c1 x1 hn1 hf1 hl1 hc1 a2 n2 c2 x2 hn2 hf2 hl2 hc2 a3 n3 c3 x3 hn3 hf3 hl3 hc3 x4 (int_bounds w4).1 (int_bounds w4).2 a5 n5 c5 x5 hn5 hr5 hb5 hl5 hc5 a6 n6 c6 x6 hn6 hr6 hb6 hl6 hc6 hk5).mono fun e W' ⟨he, bel⟩ => ?_
  subst he
  exact ⟨_, rfl, _, _, _, [], _, [], hW', trodAll_mk1 (shut_bool Try.underlying4 _), (trodAll_cons_mk (Below.trod laidOut (by kernel_rfl) (of_decide_eq_true (by kernel_rfl)) k0 bel lt0) (trodAll_cons_mk (Below.trod laidOut (by kernel_rfl) (of_decide_eq_true (by kernel_rfl)) k1 bel lt1) (trodAll_cons_mk (Below.trod laidOut (by kernel_rfl) (of_decide_eq_true (by kernel_rfl)) k2 bel lt2) (trodAll_cons_mk (Below.trod laidOut (by kernel_rfl) (of_decide_eq_true (by kernel_rfl)) k3 bel lt3) (trodAll_cons_mk (Below.trod laidOut (by kernel_rfl) (of_decide_eq_true (by kernel_rfl)) k4 bel lt4) (trodAll_cons_mk (Below.trod laidOut (by kernel_rfl) (of_decide_eq_true (by kernel_rfl)) k5 bel lt5) (trodAll_cons_mk (Below.trod laidOut (by kernel_rfl) (of_decide_eq_true (by kernel_rfl)) k6 bel lt6) trodAll_mk0))))))), rfl, bel.frame _, fun h => by cases h⟩
theorem over : Rows.commitPlaysRow.holds Try.pinned (OpenSpec.ofChange Rows.commitPlaysSpec) :=
  OpenClaim.holds_of_wide 9 Try.f9 rfl rfl rfl rfl rfl rfl rfl ⟨rfl, rfl, rfl, rfl, rfl⟩ rfl rfl rfl rfl rfl (by kernel_rfl) Try.func9 (by kernel_rfl)
    (of_decide_eq_true (by kernel_rfl)) (by unfold Func.isWrapper; first | (rw [if_pos (by decide +kernel)]; kernel_rfl) | (rw [if_neg (by decide +kernel)]; exact ⟨rfl, rfl⟩))
    (fun os started H enc _ => lifted os started H enc)
theorem proved : Rows.CommitPlaysSaid := over
#print axioms proved
end Go.Proofs.Ytcfbkhgdlgnmgaa.commitPlays
