/- Package cadenceref15: with. -/
import Derived.Test.YtopellbmmkflgaaRfC1
import Derived.Deep.QuietTactic
import Derived.BigQuiet
set_option linter.unusedVariables false
set_option linter.unusedSimpArgs false
namespace Go.Proofs.Ytopellbmmkflgaa
open Go.RowKit Go.Maps Go.Sort
theorem info_file : (Try.prog.info? 92).map (fun i => (i.zero, i.size, i.bytes)) = some (some (.agg #[.string ByteArray.empty, .string ByteArray.empty]), 2, 32) := by kernel_rfl
theorem info_op : (Try.prog.info? 88).map (fun i => (i.zero, i.size, i.bytes)) = some (some (.agg #[.string ByteArray.empty, .string ByteArray.empty, .bool false]), 3, 40) := by kernel_rfl
def opV (ch : Ch) : Value := .agg #[encStr ch.name, encStr ch.b, .bool ch.gone]
def FRes (w w' : World) (e : Ending) (l : Files) : Prop := ∃ A' c', e = .returned (.slice A' l.length c') ∧ FOwn w' w.heap.size A' l.length c' l ∧ Gr w w'
theorem Gr.grownBk {w w' w'' : World} {row : Option Nat} (h : Gr w w') (k : w'.grownBy w'' row) (hr : ∀ g, row = some g → w.heap.size ≤ g) : Gr w w'' :=
  ⟨k.os.trans h.os, k.tape.trans h.tape, k.output.trans h.output, Nat.le_trans h.size k.size, fun i hi => (k.block i (Nat.lt_of_lt_of_le hi h.size) (fun e => by have := hr i e.symm; omega)).trans (h.block i hi)⟩
section
variable {w w' : World} {c n B : Nat} {A : Option Addr} {l : Files}
theorem fown_drop (hf : FOwn w B A n c l) {g k : Nat} (hA : A = some ⟨g, 0, none⟩) : Rd w (some ⟨g, k * 2, none⟩) ((l.drop k).flatMap fc) := by
  subst hA
  have h := hf.rd.drop (k * 2)
  rw [flat_drop fc_len] at h
  simpa [add_plain] using h
theorem take_snoc {l : Files} {j : Nat} (h : j < l.length) : (l.take (j + 1)).flatMap fc = (l.take j).flatMap fc ++ fc l[j] := by
  rw [List.take_succ_eq_append_getElem h, List.flatMap_append]
  simp

theorem fres_end {B' n' n'' c' : Nat} {A' : Option Addr} {xs : List Value} {L : Files} {e : Ending} (ho : Own w' B' 92 2 A' n' c' xs) (hx : xs = L.flatMap fc) (hB : w.heap.size ≤ B') (hg : Gr w w') (he : e = .returned (.slice A' n'' c')) (hn : n'' = n') : FRes w w' e L := by
  subst hn
  subst hx
  obtain rfl := fown_len ho
  exact ⟨A', c', he, ho.more (fun g hg => Nat.le_trans hB (ho.blk g hg).1), hg⟩

set_option maxRecDepth 20000 in
set_option maxHeartbeats 4000000 in
theorem with_any (hf : FOwn w B A n c l) (hR : l.Rising) (ch : Ch) (hl : n ≤ 1000000) :
    Calls Try.prog 50 #[.slice A n c, opV ch] w fun e w' => FRes w w' e (ch.act l) := by
  have hn := fown_len hf
  have hnc := hf.le.1
  have hcm := hf.le.2
  obtain ⟨i0, hi, hz0, hz1, hz2⟩ := info_parts info_file
  unfold opV
  replace hR := Lib.hid hR
  go_enter Try.func50, Try.ntmps50
  go_wp2_with fail
  have hrow := Row.new w 88 [encStr ch.name, encStr ch.b, .bool ch.gone]
  have hg1 := Gr.alloc1 w (.cells [encStr ch.name, encStr ch.b, .bool ch.gone].toArray 88)
  have hf1 := hf.gr hg1
  have hsz := hrow.lt
  generalize hg0 : w.heap.size = g0 at *
  generalize hw1 : w.alloc (.cells #[encStr ch.name, encStr ch.b, .bool ch.gone] 88) = w1 at *
  go_loopw [5, 6] (fun o i wr => ∃ j : Nat, j ≤ n ∧ i = .int .i64 j ∧ ∃ A' c', o = .slice A' j c' ∧ FOwn wr w1.heap.size A' j c' (l.take j) ∧ Hid (∀ i (h : i < l.length), i < j → bytesBefore l[i].1 ch.name = true) ∧ Gr w1 wr) (fun _ i _ => n - (intOf i).toNat)
  case atStart => exact ⟨0, by omega, rfl, none, 0, rfl, Own.nil _ _ _ _, Lib.hid (fun i h h' => absurd h' (by omega)), Gr.rfl' _⟩
  case round =>
    obtain ⟨j, hj, rfl, A', c', rfl, ho, hlo, hb⟩ := hrel
    have hrw := hrow.gr hb
    have y0 := hrw.cell 0
    have y1 := hrw.cell 1
    have y2 := hrw.cell 2
    simp only [List.getElem?_cons_zero, List.getElem?_cons_succ] at y0 y1 y2
    by_cases hlt : j < n
    · have hjl : j < l.length := by omega
      have hfr := hf1.gr hb
      obtain ⟨g, rfl, x0, x1⟩ := fown_at hfr hjl
      by_cases hbb : bytesBefore l[j].1 ch.name = true
      · have hbl : Op.bytesLess l[j].1 ch.name = true := by rw [less_before]; exact hbb
        have hlo2 := Lib.hid (show ∀ i (h : i < l.length), i < j + 1 → bytesBefore l[i].1 ch.name = true from fun i h h' => by
          by_cases e : i = j
          · subst e; exact hbb
          · exact hlo.out i h (by omega))
        have hst := Lib.hid (take_snoc hjl)
        generalize hx : l[j] = x at *
        clear hbb
        replace hx := Lib.hid hx
        have hoB := Lib.hid ho
        go_wp2_with fail
        go_quiet (fail)
        go_wp2_with (first
          | (at_builtin; with_reducible refine wpList_append (o := ⟨some 27, _, _, _, _, _⟩) _ rfl _ _ 72 rfl w1.heap.size 92 i0 _ 2 32 Try.underlying72 hi hz0 hz1 hz2 rfl (by omega) A' j c' _ rfl (hoB.out.gr ((Gr.drawN _ _).trans' (Gr.alloc1 _ _))) _ 1 1 [encStr x.1, encStr x.2] rfl rfl (Rd.new _ [encStr x.1, encStr x.2] _) (by simp [Value.oneCell']) (by omega) (by unfold maxLen; omega) ((hb.trans' (Gr.drawN _ _)).trans' (Gr.alloc1 _ _)).size ?_
             intro A6 c6 w6 ho6 hk6
             have hG6 : Gr w1 w6 := Gr.grownBk (hb.trans' ((Gr.drawN _ _).trans' (Gr.alloc1 _ _))) hk6.grown (fun g hg => (hoB.out.blk g hg).1)
             clear hk6))
        go_roundw
        case rel =>
          refine ⟨j + 1, by omega, by go_num, A6, c6, rfl, ?_, hlo2, hG6⟩
          unfold FOwn
          rw [hst.out]
          exact ho6
        case measure => simp [intOf]; omega
      · have hbf : bytesBefore l[j].1 ch.name = false := by simpa using hbb
        have hbl : Op.bytesLess l[j].1 ch.name = false := by rw [less_before]; exact hbf
        have hact := act_split (c := ch) hR.out (Nat.le_of_lt hjl) hlo.out (fun _ => hbf)
        have hoB := Lib.hid ho
        clear ho hbb
        by_cases he : l[j].1 = ch.name
        · rw [show withK l ch.name j = j + 1 by simp [withK, hjl, he]] at hact
          rw [he] at x0 hbl
          replace hact := Lib.hid hact
          have hx := Lib.hid (show l[j].1 = ch.name from he)
          clear he hbf
          by_cases hj1 : j + 1 < n
          · cases hgn : ch.gone <;> rw [hgn] at y2
            · go_wp2_with fail
              go_quiet (fail)
              go_wp2_with (at_builtin; with_reducible refine wpList_append (o := ⟨some 40, _, _, _, _, _⟩) _ rfl _ _ 72 rfl w1.heap.size 92 i0 _ 2 32 Try.underlying72 hi hz0 hz1 hz2 rfl (by omega) A' j c' _ rfl (hoB.out.gr ((Gr.drawN _ _).trans' (Gr.alloc1 _ _))) _ 1 1 [encStr ch.name, encStr ch.b] rfl rfl (Rd.new _ [encStr ch.name, encStr ch.b] _) (by simp [Value.oneCell']) (by omega) (by unfold maxLen; omega) ((hb.trans' (Gr.drawN _ _)).trans' (Gr.alloc1 _ _)).size ?_
                           intro A5 c5 w5 ho5 hk5
                           have hb5 : Gr w1 w5 := Gr.grownBk (hb.trans' ((Gr.drawN _ _).trans' (Gr.alloc1 _ _))) hk5.grown (fun g hg => (hoB.out.blk g hg).1)
                           have hoZ := Lib.hid ho5
                           clear hk5 ho5 y0 y1 y2 x0 x1
                           have y0 : w5.cell? ⟨g0, 0, none⟩ = some (encStr ch.name) := (hrow.gr hb5).cell 0
                           have x0 := Lib.hid (hf1.gr hb5); obtain ⟨g', e', x1, x2⟩ := fown_at x0.out hjl; obtain rfl : g = g' := (by injection e' with e'; injection e'); rw [hx.out] at x1; clear x2 e' x0)
              go_quiet (fail)
              go_wp2_with (at_builtin; with_reducible refine wpList_append (o := ⟨some 61, _, _, _, _, _⟩) _ rfl _ _ 72 rfl w1.heap.size 92 i0 _ 2 32 Try.underlying72 hi hz0 hz1 hz2 rfl (by omega) A5 (j + 1) c5 _ rfl (hoZ.out.gr (Gr.drawN _ _)) (some ⟨g, (j + 1) * 2, none⟩) (n - (j + 1)) _ ((l.drop (j + 1)).flatMap fc) rfl (by rw [flat_len fc_len, List.length_drop, hn]) ((fown_drop (k := (j + 1)) (hf1.gr hb5) rfl).gr (Gr.drawN _ _)) (fc_one _) (by omega) (by unfold maxLen; omega) (hb5.trans' (Gr.drawN _ _)).size ?_
                           intro A7 c7 w7 ho7 hk7
                           have hb7 : Gr w1 w7 := Gr.grownBk (hb5.trans' (Gr.drawN _ _)) hk7.grown (fun g hg => (hoZ.out.blk g hg).1)
                           clear hk7)
              all_goals
                go_ret
                refine fres_end ho7 ?_ (by omega) (hg1.trans' hb7) rfl (by omega)
                rw [hact.out, hgn]
                first | (simp [fc]; done) | (simp; rw [← List.flatMap_append, List.take_append_drop])
            · go_wp2_with fail
              go_quiet (fail)
              have hoZ := hoB
              have hb5 := hb
              go_wp2_with fail
              go_quiet (fail)
              go_wp2_with (at_builtin; with_reducible refine wpList_append (o := ⟨some 61, _, _, _, _, _⟩) _ rfl _ _ 72 rfl w1.heap.size 92 i0 _ 2 32 Try.underlying72 hi hz0 hz1 hz2 rfl (by omega) A' j c' _ rfl (hoZ.out.gr (Gr.drawN _ _)) (some ⟨g, (j + 1) * 2, none⟩) (n - (j + 1)) _ ((l.drop (j + 1)).flatMap fc) rfl (by rw [flat_len fc_len, List.length_drop, hn]) ((fown_drop (k := (j + 1)) (hf1.gr hb5) rfl).gr (Gr.drawN _ _)) (fc_one _) (by omega) (by unfold maxLen; omega) (hb5.trans' (Gr.drawN _ _)).size ?_
                           intro A7 c7 w7 ho7 hk7
                           have hb7 : Gr w1 w7 := Gr.grownBk (hb5.trans' (Gr.drawN _ _)) hk7.grown (fun g hg => (hoZ.out.blk g hg).1)
                           clear hk7)
              all_goals
                go_ret
                refine fres_end ho7 ?_ (by omega) (hg1.trans' hb7) rfl (by omega)
                rw [hact.out, hgn]
                first | (simp [fc]; done) | (simp; rw [← List.flatMap_append, List.take_append_drop])
          · have hj2 : n ≤ j + 1 := by omega
            cases hgn : ch.gone <;> rw [hgn] at y2
            · go_wp2_with fail
              go_quiet (fail)
              go_wp2_with (at_builtin; with_reducible refine wpList_append (o := ⟨some 40, _, _, _, _, _⟩) _ rfl _ _ 72 rfl w1.heap.size 92 i0 _ 2 32 Try.underlying72 hi hz0 hz1 hz2 rfl (by omega) A' j c' _ rfl (hoB.out.gr ((Gr.drawN _ _).trans' (Gr.alloc1 _ _))) _ 1 1 [encStr ch.name, encStr ch.b] rfl rfl (Rd.new _ [encStr ch.name, encStr ch.b] _) (by simp [Value.oneCell']) (by omega) (by unfold maxLen; omega) ((hb.trans' (Gr.drawN _ _)).trans' (Gr.alloc1 _ _)).size ?_
                           intro A5 c5 w5 ho5 hk5
                           have hb5 : Gr w1 w5 := Gr.grownBk (hb.trans' ((Gr.drawN _ _).trans' (Gr.alloc1 _ _))) hk5.grown (fun g hg => (hoB.out.blk g hg).1)
                           have hoZ := Lib.hid ho5
                           clear hk5 ho5 y0 y1 y2 x0 x1
                           have y0 : w5.cell? ⟨g0, 0, none⟩ = some (encStr ch.name) := (hrow.gr hb5).cell 0
                           have x0 := Lib.hid (hf1.gr hb5); obtain ⟨g', e', x1, x2⟩ := fown_at x0.out hjl; obtain rfl : g = g' := (by injection e' with e'; injection e'); rw [hx.out] at x1; clear x2 e' x0)
              go_quiet (fail)
              go_wp2_with (at_builtin; with_reducible refine wpList_append (o := ⟨some 61, _, _, _, _, _⟩) _ rfl _ _ 72 rfl w1.heap.size 92 i0 _ 2 32 Try.underlying72 hi hz0 hz1 hz2 rfl (by omega) A5 (j + 1) c5 _ rfl (hoZ.out.gr (Gr.drawN _ _)) _ 0 _ (([] : Files).flatMap fc) rfl rfl (Rd.nil _ _) (fc_one _) (by omega) (by unfold maxLen; omega) (hb5.trans' (Gr.drawN _ _)).size ?_
                           intro A7 c7 w7 ho7 hk7
                           have hb7 : Gr w1 w7 := Gr.grownBk (hb5.trans' (Gr.drawN _ _)) hk7.grown (fun g hg => (hoZ.out.blk g hg).1)
                           clear hk7)
              all_goals
                go_ret
                refine fres_end ho7 ?_ (by omega) (hg1.trans' hb7) rfl (by omega)
                rw [hact.out, hgn]
                simp [fc, List.drop_of_length_le (show l.length ≤ (j + 1) by omega)]
            · go_wp2_with fail
              go_quiet (fail)
              have hoZ := hoB
              have hb5 := hb
              go_wp2_with fail
              go_quiet (fail)
              go_wp2_with (at_builtin; with_reducible refine wpList_append (o := ⟨some 61, _, _, _, _, _⟩) _ rfl _ _ 72 rfl w1.heap.size 92 i0 _ 2 32 Try.underlying72 hi hz0 hz1 hz2 rfl (by omega) A' j c' _ rfl (hoZ.out.gr (Gr.drawN _ _)) _ 0 _ (([] : Files).flatMap fc) rfl rfl (Rd.nil _ _) (fc_one _) (by omega) (by unfold maxLen; omega) (hb5.trans' (Gr.drawN _ _)).size ?_
                           intro A7 c7 w7 ho7 hk7
                           have hb7 : Gr w1 w7 := Gr.grownBk (hb5.trans' (Gr.drawN _ _)) hk7.grown (fun g hg => (hoZ.out.blk g hg).1)
                           clear hk7)
              all_goals
                go_ret
                refine fres_end ho7 ?_ (by omega) (hg1.trans' hb7) rfl (by omega)
                rw [hact.out, hgn]
                simp [fc, List.drop_of_length_le (show l.length ≤ (j + 1) by omega)]
        · rw [show withK l ch.name j = j by simp [withK, hjl, he]] at hact
          have hef : (l[j].1 == ch.name) = false := by simpa using he
          replace hact := Lib.hid hact
          clear he hbf
          cases hgn : ch.gone <;> rw [hgn] at y2
          · go_wp2_with fail
            go_quiet (fail)
            go_wp2_with (at_builtin; with_reducible refine wpList_append (o := ⟨some 40, _, _, _, _, _⟩) _ rfl _ _ 72 rfl w1.heap.size 92 i0 _ 2 32 Try.underlying72 hi hz0 hz1 hz2 rfl (by omega) A' j c' _ rfl (hoB.out.gr ((Gr.drawN _ _).trans' (Gr.alloc1 _ _))) _ 1 1 [encStr ch.name, encStr ch.b] rfl rfl (Rd.new _ [encStr ch.name, encStr ch.b] _) (by simp [Value.oneCell']) (by omega) (by unfold maxLen; omega) ((hb.trans' (Gr.drawN _ _)).trans' (Gr.alloc1 _ _)).size ?_
                         intro A5 c5 w5 ho5 hk5
                         have hb5 : Gr w1 w5 := Gr.grownBk (hb.trans' ((Gr.drawN _ _).trans' (Gr.alloc1 _ _))) hk5.grown (fun g hg => (hoB.out.blk g hg).1)
                         have hoZ := Lib.hid ho5
                         clear hk5 ho5 y0 y1 y2 x0 x1
                         have y0 : w5.cell? ⟨g0, 0, none⟩ = some (encStr ch.name) := (hrow.gr hb5).cell 0
                         have x0 := Lib.hid (hf1.gr hb5); obtain ⟨g', e', x1, x2⟩ := fown_at x0.out hjl; obtain rfl : g = g' := (by injection e' with e'; injection e'); clear x2 e' x0)
            go_quiet (fail)
            go_wp2_with (at_builtin; with_reducible refine wpList_append (o := ⟨some 61, _, _, _, _, _⟩) _ rfl _ _ 72 rfl w1.heap.size 92 i0 _ 2 32 Try.underlying72 hi hz0 hz1 hz2 rfl (by omega) A5 (j + 1) c5 _ rfl (hoZ.out.gr (Gr.drawN _ _)) (some ⟨g, j * 2, none⟩) (n - j) _ ((l.drop j).flatMap fc) rfl (by rw [flat_len fc_len, List.length_drop, hn]) ((fown_drop (k := j) (hf1.gr hb5) rfl).gr (Gr.drawN _ _)) (fc_one _) (by omega) (by unfold maxLen; omega) (hb5.trans' (Gr.drawN _ _)).size ?_
                         intro A7 c7 w7 ho7 hk7
                         have hb7 : Gr w1 w7 := Gr.grownBk (hb5.trans' (Gr.drawN _ _)) hk7.grown (fun g hg => (hoZ.out.blk g hg).1)
                         clear hk7)
            all_goals
              go_ret
              refine fres_end ho7 ?_ (by omega) (hg1.trans' hb7) rfl (by omega)
              rw [hact.out, hgn]
              first | (simp [fc]; done) | (simp; rw [← List.flatMap_append, List.take_append_drop])
          · go_wp2_with fail
            go_quiet (fail)
            have hoZ := hoB
            have hb5 := hb
            go_wp2_with fail
            go_quiet (fail)
            go_wp2_with (at_builtin; with_reducible refine wpList_append (o := ⟨some 61, _, _, _, _, _⟩) _ rfl _ _ 72 rfl w1.heap.size 92 i0 _ 2 32 Try.underlying72 hi hz0 hz1 hz2 rfl (by omega) A' j c' _ rfl (hoZ.out.gr (Gr.drawN _ _)) (some ⟨g, j * 2, none⟩) (n - j) _ ((l.drop j).flatMap fc) rfl (by rw [flat_len fc_len, List.length_drop, hn]) ((fown_drop (k := j) (hf1.gr hb5) rfl).gr (Gr.drawN _ _)) (fc_one _) (by omega) (by unfold maxLen; omega) (hb5.trans' (Gr.drawN _ _)).size ?_
                         intro A7 c7 w7 ho7 hk7
                         have hb7 : Gr w1 w7 := Gr.grownBk (hb5.trans' (Gr.drawN _ _)) hk7.grown (fun g hg => (hoZ.out.blk g hg).1)
                         clear hk7)
            all_goals
              go_ret
              refine fres_end ho7 ?_ (by omega) (hg1.trans' hb7) rfl (by omega)
              rw [hact.out, hgn]
              first | (simp [fc]; done) | (simp; rw [← List.flatMap_append, List.take_append_drop])
    · obtain rfl : j = n := by omega
      have hact := act_split (c := ch) hR.out (Nat.le_of_eq hn.symm) (hn ▸ hlo.out) (fun h => absurd h (by omega))
      rw [show withK l ch.name j = j from if_neg (fun h => absurd h.1 (by omega))] at hact
      replace hact := Lib.hid hact
      have hoB := Lib.hid ho
      clear ho
      cases hgn : ch.gone <;> rw [hgn] at y2
      · go_wp2_with fail
        go_quiet (fail)
        go_wp2_with (at_builtin; with_reducible refine wpList_append (o := ⟨some 40, _, _, _, _, _⟩) _ rfl _ _ 72 rfl w1.heap.size 92 i0 _ 2 32 Try.underlying72 hi hz0 hz1 hz2 rfl (by omega) A' j c' _ rfl (hoB.out.gr ((Gr.drawN _ _).trans' (Gr.alloc1 _ _))) _ 1 1 [encStr ch.name, encStr ch.b] rfl rfl (Rd.new _ [encStr ch.name, encStr ch.b] _) (by simp [Value.oneCell']) (by omega) (by unfold maxLen; omega) ((hb.trans' (Gr.drawN _ _)).trans' (Gr.alloc1 _ _)).size ?_
                     intro A5 c5 w5 ho5 hk5
                     have hb5 : Gr w1 w5 := Gr.grownBk (hb.trans' ((Gr.drawN _ _).trans' (Gr.alloc1 _ _))) hk5.grown (fun g hg => (hoB.out.blk g hg).1)
                     have hoZ := Lib.hid ho5
                     clear hk5 ho5 y0 y1 y2
                     have y0 : w5.cell? ⟨g0, 0, none⟩ = some (encStr ch.name) := (hrow.gr hb5).cell 0)
        go_quiet (fail)
        go_wp2_with (at_builtin; with_reducible refine wpList_append (o := ⟨some 61, _, _, _, _, _⟩) _ rfl _ _ 72 rfl w1.heap.size 92 i0 _ 2 32 Try.underlying72 hi hz0 hz1 hz2 rfl (by omega) A5 (j + 1) c5 _ rfl (hoZ.out.gr (Gr.drawN _ _)) _ 0 _ (([] : Files).flatMap fc) rfl rfl (Rd.nil _ _) (fc_one _) (by omega) (by unfold maxLen; omega) (hb5.trans' (Gr.drawN _ _)).size ?_
                     intro A7 c7 w7 ho7 hk7
                     have hb7 : Gr w1 w7 := Gr.grownBk (hb5.trans' (Gr.drawN _ _)) hk7.grown (fun g hg => (hoZ.out.blk g hg).1)
                     clear hk7)
        all_goals
          go_ret
          refine fres_end ho7 ?_ (by omega) (hg1.trans' hb7) rfl (by omega)
          rw [hact.out, hgn]
          simp [fc, List.drop_of_length_le (show l.length ≤ j by omega)]
      · go_wp2_with fail
        go_quiet (fail)
        have hoZ := hoB
        have hb5 := hb
        go_wp2_with fail
        go_quiet (fail)
        go_wp2_with (at_builtin; with_reducible refine wpList_append (o := ⟨some 61, _, _, _, _, _⟩) _ rfl _ _ 72 rfl w1.heap.size 92 i0 _ 2 32 Try.underlying72 hi hz0 hz1 hz2 rfl (by omega) A' j c' _ rfl (hoZ.out.gr (Gr.drawN _ _)) _ 0 _ (([] : Files).flatMap fc) rfl rfl (Rd.nil _ _) (fc_one _) (by omega) (by unfold maxLen; omega) (hb5.trans' (Gr.drawN _ _)).size ?_
                     intro A7 c7 w7 ho7 hk7
                     have hb7 : Gr w1 w7 := Gr.grownBk (hb5.trans' (Gr.drawN _ _)) hk7.grown (fun g hg => (hoZ.out.blk g hg).1)
                     clear hk7)
        all_goals
          go_ret
          refine fres_end ho7 ?_ (by omega) (hg1.trans' hb7) rfl (by omega)
          rw [hact.out, hgn]
          simp [fc, List.drop_of_length_le (show l.length ≤ j by omega)]
end
end Go.Proofs.Ytopellbmmkflgaa
