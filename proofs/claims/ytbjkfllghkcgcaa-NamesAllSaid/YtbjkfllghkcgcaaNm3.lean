/- Package names: with, only. -/
import Derived.Test.YtbjkfllghkcgcaaNm2
set_option linter.unusedVariables false
set_option linter.unusedSimpArgs false
namespace Go.Proofs.Ytbjkfllghkcgcaa
open Go.RowKit Go.Sort

attribute [local go_sem] Vc.known_tmp Vc.known_const Vc.known_func Vc.known_global Vc.lk Vc.okUpon Vc.Fact.holds

def withL (X Y : List Str) : List Str := ofL (X ++ Y)

theorem Gr.grownB {w w1 w2 : World} {A : Option Addr} (h : Gr w w1) (ho : w1.grownBy w2 (blkOf A)) (hA : ∀ g, blkOf A = some g → w.heap.size ≤ g) : Gr w w2 :=
  Below.grown h ho h.size (fun k hk => hA k hk)

set_option maxHeartbeats 2000000 in
theorem with_any (A : Option Addr) (n c : Nat) (X : List Str) (A2 : Option Addr) (n2 c2 : Nat) (Y : List Str) (w : World) (hn : Hid (X.length = n)) (hr : Rd w A (X.map encStr)) (hl : n ≤ 100000)
    (hn2 : Hid (Y.length = n2)) (hr2 : Rd w A2 (Y.map encStr)) (hl2 : n2 ≤ 100000) :
    Calls Try.prog 36 #[.agg #[.slice A n c], .agg #[.slice A2 n2 c2]] w (SetB w (withL X Y)) := by
  have HC := Lib.hid (fun W h => clone_any A n c X W hn h (by omega))
  go_enter Try.func36, Try.ntmps36
  go_wp2_with fail
  obtain ⟨hrow, hrow2, hres, hg1⟩ := new3 w 56 56 56 [.slice A n c] [.slice A2 n2 c2] [.slice none 0 0]
  generalize ((w.alloc (.cells #[.slice A n c] 56)).alloc (.cells #[.slice A2 n2 c2] 56)).alloc (.cells #[.slice none 0 0] 56) = w1 at *
  have hres0 := hres
  have hc0 := Lib.hid (show w1.cell? ⟨w.heap.size, 0, none⟩ = some (.slice A n c) from hrow.cell 0)
  have hc1 := Lib.hid (show w1.cell? ⟨w.heap.size + 1, 0, none⟩ = some (.slice A2 n2 c2) from hrow2.cell 0)
  have hd := hr.gr hg1
  have hd2 := hr2.gr hg1
  refine Vc.wp_region_split ⟨Gr, fun _ => Gr, fun _ W => Gr w1 W, []⟩ 5 [] (by kernel_rfl) (by kernel_rfl) (by kernel_rfl) (by decide) (by simp) (by simp) (by simp) (fun _ _ h => h.size) (fun _ _ _ h => h.size) (fun _ _ _ h h' => h'.trans' h) (Gr.draw _) ?_
  repeat
    refine Vc.Walk.pure (v := ?_) (fun _ => Gr.rfl' _) rfl (by first | exact Vc.GuardYes.no rfl | exact Vc.GuardYes.yes rfl rfl) rfl rfl ?_ ?_
    rotate_left
    · intro _ W hI
      (have hx := hI.g.cell hc0.out; have hy := hI.g.cell hc1.out; clear hI)
      go_simp
      exact rfl
  refine Vc.Walk.call (.fits (Vc.All fun v W => ∃ A' c', v = .slice A' n c' ∧ Own W w1.heap.size 9 1 A' n c' (X.map encStr))) (st_gr (fun _ _ h => h) (fun _ _ _ h => h) (fun hg ⟨A', c', e, h⟩ => ⟨A', c', e, h.gr hg⟩)) (.no rfl) rfl rfl ?_ ?_
  · intro k W hI
    have hg := hI.g
    clear hI
    have hz := hg.size
    go_simp
    refine (HC.out _ (hd.gr hg)).mono ?_
    rintro e W' ⟨A', c', rfl, ho, _, hg'⟩
    exact ⟨_, rfl, ⟨_, _, rfl, ho.more (fun g hg => Nat.le_trans hz (ho.blk g hg).1)⟩, hg'⟩
  repeat
    refine Vc.Walk.pure (v := ?_) (fun _ => Gr.rfl' _) rfl (by first | exact Vc.GuardYes.no rfl | exact Vc.GuardYes.yes rfl rfl) rfl rfl ?_ ?_
    rotate_left
    · intro _ W hI
      (have hx := hI.g.cell hc0.out; have hy := hI.g.cell hc1.out; clear hI)
      go_simp
      exact rfl
  intro W hW
  have hW : Gr w1 W := hW
  simp only [List.reverse_cons, List.reverse_nil, List.nil_append, List.cons_append, Vc.finish, Act.put, List.setIfInBounds_toArray, List.set_cons_zero, List.set_cons_succ]
  rintro u7 ⟨A', c', rfl, ho⟩ _
  simp only [List.drop_succ_cons, List.drop_zero]
  have HL := Lib.hid (show (Y.map encStr).length = n2 * 1 by have := hn2.out; simpa using this)
  obtain ⟨i0, hi, hz0, hz1, hz2⟩ := info_parts info_str
  have hq := Lib.hid (hres.gr hW)
  clear hres hrow hrow2 hc0 hc1
  go_wp2_with (first
    | (at_builtin; with_reducible refine wpList_append (o := ⟨some 10, _, _, _, _, _⟩) _ rfl _ _ 23 rfl w1.heap.size 9 i0 _ 1 16 Try.underlying23 hi hz0 hz1 hz2 rfl (by omega) A' n c' _ rfl ho _ _ _ _ rfl HL.out (hd2.gr hW) (by simp [Value.oneCell']) (by omega) (by unfold maxLen; omega) (hW.size) ?_
       intro A3 c3 w3 ho3 hk3
       have hb3 : ∀ g, blkOf A' = some g → w1.heap.size ≤ g := fun g hg => (ho.blk g hg).1
       have hG3 := (hg1.trans' hW).grownB hk3.grown (fun g hg => Nat.le_trans hg1.size (hb3 g hg))
       have hq3 := hq.out.keepOwn hk3.grown (fun g hg => by have := hb3 g hg; have := hres0.lt; omega)
       have HO := Lib.hid (of_any A3 (n + n2) c3 (X ++ Y) w3 (Lib.hid (by rw [List.length_append, hn.out, hn2.out])) (by rw [List.map_append]; exact ho3.rd) (by omega))
       have X3 := Lib.hid (And.intro hG3 hq3)
       clear hk3 ho3 hb3 hG3 hq3)
    | (go_at_call 35; (with_reducible refine HO.out.mono ?_); rintro e w4 ⟨A4, n4, c4, rfl, hn4, hr4, h1, h2, hg4⟩
       have hrow := X3.out.2.gr hg4
       have hq0 : w4.cell? ⟨w.heap.size + 1 + 1, 0, none⟩ = some (.slice none 0 0) := hrow.cell 0
       have hf0 : w4.frozen? ⟨w.heap.size + 1 + 1, 0, none⟩ = false := hrow.frozen 0
       have hn4 := Lib.hid hn4))
  obtain ⟨hR, ho, hG⟩ := res1 hrow (X3.out.1.trans' hg4) (by omega) (.slice A4 n4 c4)
  have hs0 := hR.cell 0
  simp only [List.getElem?_cons_zero] at hs0
  (try simp only [Exit.inBlock, Exit.then])
  refine bodyPost_ret (v := ?_) ?_ rfl ?_
  rotate_left
  · simp [results, Try.results36, go_sem, hs0]
    (try rfl)
  exact ⟨A4, n4, c4, rfl, hn4.out, hr4.keepStr hrow (by simp) ho, h1, h2, hG⟩
end Go.Proofs.Ytbjkfllghkcgcaa
