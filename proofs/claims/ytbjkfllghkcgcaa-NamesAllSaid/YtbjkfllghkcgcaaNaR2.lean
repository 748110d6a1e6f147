/- Package cadenceref3: put. -/
import Derived.Test.YtbjkfllghkcgcaaNaR1
set_option linter.unusedVariables false
set_option linter.unusedSimpArgs false
namespace Go.Proofs.Ytbjkfllghkcgcaa
open Go.RowKit Go.Sort

attribute [local go_sem] Vc.known_tmp Vc.known_const Vc.known_func Vc.known_global Vc.lk Vc.okUpon Vc.Fact.holds

set_option maxRecDepth 20000 in
set_option maxHeartbeats 4000000 in
theorem put_any (A : Option Addr) (n c : Nat) (L : List Str) (s : Str) (w : World) (hn : Hid (L.length = n)) (hr : Rd w A (L.map encStr)) (hl : n ≤ 100000) (hnc : n ≤ c) (hc : c ≤ maxLen) (hs : L.Pairwise (· < ·)) :
    Calls Try.prog 40 #[.slice A n c, encStr s] w (SlB w (ofL (L ++ [s]))) := by
  obtain ⟨i0, hi, hz0, hz1, hz2⟩ := info_parts info_str
  replace hs := Lib.hid hs
  go_enter Try.func40, Try.ntmps40
  go_wp2_with fail
  go_loopw [5] (fun i wr => ∃ j : Nat, j ≤ n ∧ i = .int .i64 j ∧ Hid (∀ i (h : i < L.length), i < j → L[i] < s) ∧ Gr w wr) (fun i _ => n - (intOf i).toNat)
  case atStart => exact ⟨0, by omega, rfl, Lib.hid (fun i h h' => absurd h' (by omega)), Gr.rfl' _⟩
  case round =>
    obtain ⟨j, hj, rfl, hlo, hb⟩ := hrel
    have hdone : (∀ i (h : i < L.length), j ≤ i → s < L[i]) → ofL (L ++ [s]) = L.take j ++ [s] ++ L.drop j := fun h2 => put_new hs.out hlo.out h2
    by_cases hlt : j < n
    · have hjl : j < L.length := by have := hn.out; omega
      obtain ⟨ad, rfl, hx⟩ := hr.at_ (k := j) (by simpa using hjl)
      have hx := hb.cell hx
      simp only [List.getElem_map] at hx
      by_cases hxs : L[j] < s
      · have hlo2 := Lib.hid (show ∀ i (h : i < L.length), i < j + 1 → L[i] < s from fun i h h' => by
          by_cases e : i = j
          · subst e; exact hxs
          · exact hlo.out i h (by omega))
        have hbl : Op.bytesLess L[j] s = true := by rw [bytesLess_eq]; exact decide_eq_true hxs
        generalize L[j] = x at *
        clear hxs hdone
        go_wp2_with fail
        go_roundw
        case rel => exact ⟨j + 1, by omega, by go_num, hlo2, hb⟩
        case measure => simp [intOf]; omega
      · have hbl : Op.bytesLess L[j] s = false := by rw [bytesLess_eq]; exact decide_eq_false hxs
        by_cases he : L[j] = s
        · have hm : s ∈ L := he ▸ List.getElem_mem hjl
          have hput := Lib.hid (put_there hs.out hm)
          rw [he] at hx hbl
          clear hxs he hdone
          go_wp2_with fail
          go_ret
          exact ⟨_, n, c, rfl, by rw [hput.out]; exact hn, by rw [hput.out]; exact hr.gr hb, hnc, hc, hb⟩
        · have hgt : s < L[j] := str_lt_of (List.not_lt.1 hxs) (fun e => he e.symm)
          have hput := Lib.hid (hdone (fun i h h' => by
            by_cases e : i = j
            · subst e; exact hgt
            · exact str_trans hgt (List.pairwise_iff_getElem.1 hs.out j i hjl h (by omega))))
          have hf : (L[j] == s) = false := by simpa using he
          generalize L[j] = x at *
          clear hxs he hgt hdone
          have hTd := Lib.hid (show Rd wr (some (ad.add j)) ((L.drop j).map encStr) by rw [List.map_drop]; exact (hr.gr hb).drop j)
          have hTe := Lib.hid (show ((L.drop j).map encStr).length = (n - j) * 1 by have := hn.out; simp; omega)
          have hTl := Lib.hid (show ((L.take j).map encStr).length = j * 1 by simp; omega)
          have hTr := Lib.hid (show Rd wr (some ad) ((L.take j).map encStr) by rw [List.map_take]; exact (hr.gr hb).take j)
          go_wp2_with (first
            | (at_builtin; with_reducible refine wpList_append (o := ⟨some 38, _, _, _, _, _⟩) _ rfl _ _ 23 rfl wr.heap.size 9 i0 _ 1 16 Try.underlying23 hi hz0 hz1 hz2 rfl (by omega) none 0 0 [] rfl (Own.nil _ _ _ _) _ _ _ _ rfl hTl.out (hTr.out) (enc_one _) (by omega) (by unfold maxLen; omega) (Nat.le_refl _) ?_
               intro A3 c3 w3 ho3 hk3
               simp only [Nat.zero_add, List.nil_append] at ho3
               have hg3 := Gr.grownB (Gr.rfl' wr) hk3.grown (fun g hg => by cases hg)
               have X3 := Lib.hid (And.intro ho3 hg3)
               clear ho3 hk3 hg3)
            | (at_builtin; with_reducible refine wpList_append (o := ⟨some 42, _, _, _, _, _⟩) _ rfl _ _ 23 rfl wr.heap.size 9 i0 _ 1 16 Try.underlying23 hi hz0 hz1 hz2 rfl (by omega) A3 _ c3 _ rfl (X3.out.1.gr (Gr.alloc1 _ _)) _ 1 1 [encStr s] rfl rfl (Rd.one_new _ _ _) (by simp [Value.oneCell']) (by omega) (by unfold maxLen; omega) (Nat.le_trans X3.out.2.size (Gr.alloc1 _ _).size) ?_
               intro A5 c5 w5 ho5 hk5
               have hg5 := Gr.grownB (X3.out.2.trans' (Gr.alloc1 _ _)) hk5.grown (fun g hg => (X3.out.1.blk g hg).1)
               have X5 := Lib.hid (And.intro ho5 hg5)
               clear ho5 hk5 hg5)
            | (at_builtin; with_reducible refine wpList_append (o := ⟨some 47, _, _, _, _, _⟩) _ rfl _ _ 23 rfl wr.heap.size 9 i0 _ 1 16 Try.underlying23 hi hz0 hz1 hz2 rfl (by omega) A5 (j + 1) c5 _ rfl X5.out.1 _ (n - j) _ _ rfl hTe.out (hTd.out.gr X5.out.2) (enc_one _) (by omega) (by unfold maxLen; omega) X5.out.2.size ?_
               intro A7 c7 w7 ho7 hk7
               have hg7 := Gr.grownB X5.out.2 hk7.grown (fun g hg => (X5.out.1.blk g hg).1)
               clear hk7))
          go_ret
          refine ⟨_, _, _, rfl, ?_, ?_, ho7.le.1, ho7.le.2, hb.trans' hg7⟩
          · rw [hput.out]
            exact Lib.hid (by have := hn.out; simp; omega)
          · rw [hput.out]
            simpa using ho7.rd
    · obtain rfl : j = n := by omega
      have hput := Lib.hid (hdone (fun i h h' => absurd h (by have := hn.out; omega)))
      clear hdone
      have hTl := Lib.hid (show ((L.take j).map encStr).length = j * 1 by have := hn.out; simp; omega)
      have hTr := Lib.hid (show Rd wr A ((L.take j).map encStr) by rw [List.map_take]; exact (hr.gr hb).take j)
      go_wp2_with (first
        | (at_builtin; with_reducible refine wpList_append (o := ⟨some 38, _, _, _, _, _⟩) _ rfl _ _ 23 rfl wr.heap.size 9 i0 _ 1 16 Try.underlying23 hi hz0 hz1 hz2 rfl (by omega) none 0 0 [] rfl (Own.nil _ _ _ _) _ _ _ _ rfl hTl.out (hTr.out) (enc_one _) (by omega) (by unfold maxLen; omega) (Nat.le_refl _) ?_
           intro A3 c3 w3 ho3 hk3
           simp only [Nat.zero_add, List.nil_append] at ho3
           have hg3 := Gr.grownB (Gr.rfl' wr) hk3.grown (fun g hg => by cases hg)
           have X3 := Lib.hid (And.intro ho3 hg3)
           clear ho3 hk3 hg3)
        | (at_builtin; with_reducible refine wpList_append (o := ⟨some 42, _, _, _, _, _⟩) _ rfl _ _ 23 rfl wr.heap.size 9 i0 _ 1 16 Try.underlying23 hi hz0 hz1 hz2 rfl (by omega) A3 _ c3 _ rfl (X3.out.1.gr (Gr.alloc1 _ _)) _ 1 1 [encStr s] rfl rfl (Rd.one_new _ _ _) (by simp [Value.oneCell']) (by omega) (by unfold maxLen; omega) (Nat.le_trans X3.out.2.size (Gr.alloc1 _ _).size) ?_
           intro A5 c5 w5 ho5 hk5
           have hg5 := Gr.grownB (X3.out.2.trans' (Gr.alloc1 _ _)) hk5.grown (fun g hg => (X3.out.1.blk g hg).1)
           have X5 := Lib.hid (And.intro ho5 hg5)
           clear ho5 hk5 hg5)
        | (at_builtin; with_reducible refine wpList_append (o := ⟨some 47, _, _, _, _, _⟩) _ rfl _ _ 23 rfl wr.heap.size 9 i0 _ 1 16 Try.underlying23 hi hz0 hz1 hz2 rfl (by omega) A5 (j + 1) c5 _ rfl X5.out.1 _ 0 _ _ rfl (show (([] : List Str).map encStr).length = 0 * 1 from rfl) (Rd.nil _ _) (enc_one _) (by omega) (by unfold maxLen; omega) X5.out.2.size ?_
           intro A7 c7 w7 ho7 hk7
           have hg7 := Gr.grownB X5.out.2 hk7.grown (fun g hg => (X5.out.1.blk g hg).1)
           clear hk7))
      all_goals
        go_ret
        refine ⟨_, _, _, rfl, ?_, ?_, ho7.le.1, ho7.le.2, hb.trans' hg7⟩
        · rw [hput.out]
          exact Lib.hid (by have := hn.out; simp; omega)
        · rw [hput.out, List.drop_of_length_le (by have := hn.out; omega)]
          simpa using ho7.rd
end Go.Proofs.Ytbjkfllghkcgcaa
