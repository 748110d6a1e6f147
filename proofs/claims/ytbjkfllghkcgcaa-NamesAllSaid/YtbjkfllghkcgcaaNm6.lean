/- Package names: Either. -/
import Derived.Test.YtbjkfllghkcgcaaNm5
set_option linter.unusedVariables false
set_option linter.unusedSimpArgs false
namespace Go.Proofs.Ytbjkfllghkcgcaa
open Go.RowKit Go.Sort

attribute [local go_sem] Vc.known_tmp Vc.known_const Vc.known_func Vc.known_global Vc.lk Vc.okUpon Vc.Fact.holds

def eitherL (b1 b2 : Bool) (L1 L2 : List Str) : List Str := ofL (bothL (!b1) (!b2) (ofL L1) (ofL L2))
theorem eitherL_length (b1 b2 : Bool) (L1 L2 : List Str) : (eitherL b1 b2 L1 L2).length ≤ L1.length + L2.length := by
  have h1 := ofL_length_le L1
  have h2 := ofL_length_le L2
  have h3 := bothL_length (!b1) (!b2) (ofL L1) (ofL L2)
  have h4 := ofL_length_le (bothL (!b1) (!b2) (ofL L1) (ofL L2))
  unfold eitherL
  omega

set_option maxHeartbeats 400000 in
theorem either_any (b1 : Bool) (A1 : Option Addr) (n1 c1 : Nat) (L1 : List Str) (b2 : Bool) (A2 : Option Addr) (n2 c2 : Nat) (L2 : List Str) (w : World) (hn1 : Hid (L1.length = n1)) (hr1 : Rd w A1 (L1.map encStr)) (hl1 : n1 ≤ 10000)
    (hn2 : Hid (L2.length = n2)) (hr2 : Rd w A2 (L2.map encStr)) (hl2 : n2 ≤ 10000) :
    Calls Try.prog 20 #[.agg #[.bool b1, .slice A1 n1 c1], .agg #[.bool b2, .slice A2 n2 c2]] w (NmB w (b1 || b2) (eitherL b1 b2 L1 L2)) := by
  have hz1 : (ofL L1).length ≤ 10000 := by have := ofL_length_le L1; have := hn1.out; omega
  have hz2 : (ofL L2).length ≤ 10000 := by have := ofL_length_le L2; have := hn2.out; omega
  have hz3 := Lib.hid (Nat.le_trans (bothL_length (!b1) (!b2) (ofL L1) (ofL L2)) (show _ ≤ 20000 by omega))
  have HN1 := Lib.hid (fun W h => not_any b1 A1 n1 c1 L1 W hn1 h (by omega))
  have HN2 := Lib.hid (fun W h => not_any b2 A2 n2 c2 L2 W hn2 h (by omega))
  have HB := Lib.hid (fun A n c A' n' c' W (h1 : Hid ((ofL L1).length = n)) h2 (h3 : Hid ((ofL L2).length = n')) h4 => both_any (!b1) A n c (ofL L1) (!b2) A' n' c' (ofL L2) W h1 h2 (by have := h1.out; omega) h3 h4 (by have := h3.out; omega))
  have HN3 := Lib.hid (fun A n c W (h1 : Hid ((bothL (!b1) (!b2) (ofL L1) (ofL L2)).length = n)) h2 => (show (!(!b1 && !b2)) = (b1 || b2) by simp) ▸ not_any (!b1 && !b2) A n c _ W h1 h2 (by have := h1.out; have := hz3.out; omega))
  unfold eitherL
  generalize bothL (!b1) (!b2) (ofL L1) (ofL L2) = L3 at *
  clear hz1 hz2
  go_enter Try.func20, Try.ntmps20
  go_wp2_with fail
  obtain ⟨hrow, hrow2, hres, hg1⟩ := new3 w 25 25 25 [.bool b1, .slice A1 n1 c1] [.bool b2, .slice A2 n2 c2] [.bool false, .slice none 0 0]
  generalize ((w.alloc (.cells #[.bool b1, .slice A1 n1 c1] 25)).alloc (.cells #[.bool b2, .slice A2 n2 c2] 25)).alloc (.cells #[.bool false, .slice none 0 0] 25) = w1 at *
  have hc1 := Lib.hid (show w1.cell? ⟨w.heap.size, 0, none⟩ = some (.bool b1) ∧ w1.cell? ⟨w.heap.size, 1, none⟩ = some (.slice A1 n1 c1) from ⟨hrow.cell 0, hrow.cell 1⟩)
  have hc2 := Lib.hid (show w1.cell? ⟨w.heap.size + 1, 0, none⟩ = some (.bool b2) ∧ w1.cell? ⟨w.heap.size + 1, 1, none⟩ = some (.slice A2 n2 c2) from ⟨hrow2.cell 0, hrow2.cell 1⟩)
  have hd1 := hr1.gr hg1
  have hd2 := hr2.gr hg1
  refine Vc.wp_region_split ⟨Gr, fun _ => Gr, fun _ W => Gr w1 W, []⟩ 6 [] (by kernel_rfl) (by kernel_rfl) (by kernel_rfl) (by decide) (by simp) (by simp) (by simp) (fun _ _ h => h.size) (fun _ _ _ h => h.size) (fun _ _ _ h h' => h'.trans' h) (Gr.draw _) ?_
  repeat
    refine Vc.Walk.pure (v := ?_) (fun _ => Gr.rfl' _) rfl (by first | exact Vc.GuardYes.no rfl | exact Vc.GuardYes.yes rfl rfl) rfl rfl ?_ ?_
    rotate_left
    · intro _ W hI
      (have hx := hI.g.cell hc1.out.1; have hx' := hI.g.cell hc1.out.2; clear hI)
      go_simp
      exact rfl
  refine Vc.Walk.call (.fits (Vc.All (NmV (!b1) (ofL L1)))) (st_gr (fun _ _ h => h) (fun _ _ _ h => h) NmV.gr) (.no rfl) rfl rfl ?_ ?_
  · intro k W hI
    have hg := hI.g
    clear hI
    go_simp
    refine (HN1.out _ (hd1.gr hg)).mono ?_
    rintro e W' ⟨A', n', c', rfl, hn', hr', h1, h2, hg'⟩
    exact ⟨_, rfl, ⟨_, _, _, rfl, hn', hr', h1, h2⟩, hg'⟩
  repeat
    refine Vc.Walk.pure (v := ?_) (fun _ => Gr.rfl' _) rfl (by first | exact Vc.GuardYes.no rfl | exact Vc.GuardYes.yes rfl rfl) rfl rfl ?_ ?_
    rotate_left
    · intro _ W hI
      (have hx := hI.g.cell hc2.out.1; have hx' := hI.g.cell hc2.out.2; clear hI)
      go_simp
      exact rfl
  refine Vc.Walk.call (.fits (Vc.All (NmV (!b2) (ofL L2)))) (st_gr (fun _ _ h => h) (fun _ _ _ h => h) NmV.gr) (.no rfl) rfl rfl ?_ ?_
  · intro k W hI
    have hg := hI.g
    clear hI
    go_simp
    refine (HN2.out _ (hd2.gr hg)).mono ?_
    rintro e W' ⟨A', n', c', rfl, hn', hr', h1, h2, hg'⟩
    exact ⟨_, rfl, ⟨_, _, _, rfl, hn', hr', h1, h2⟩, hg'⟩
  refine Vc.Walk.any (.fits (Vc.All (NmV (!b1 && !b2) L3))) (st_gr (fun _ _ h => h) (fun _ _ _ h => h) NmV.gr) (.no rfl) ?_ ?_
  · intro ρ k W hI hf
    obtain ⟨hρ0, ⟨A', n', c', hρ1, hn', hr', _⟩, ⟨A'', n'', c'', hρ2, hn'', hr'', _⟩, _⟩ := hf
    have e0 : ρ (.func 19) = .func (.func 19) #[] #[] := hρ0
    have e1 : ρ (.tmp 6) = .agg #[.bool (!b1), .slice A' n' c'] := hρ1
    have e2 : ρ (.tmp 8) = .agg #[.bool (!b2), .slice A'' n'' c''] := hρ2
    clear hI hρ0 hρ1 hρ2
    go_simp
    refine (HB.out _ _ c' _ _ c'' _ hn' hr' hn'' hr'').mono ?_
    rintro e W' ⟨A', n', c', rfl, hn', hr', h1, h2, hg'⟩
    exact ⟨_, rfl, ⟨_, _, _, rfl, hn', hr', h1, h2⟩, hg'⟩
  refine Vc.Walk.any (.fits (Vc.All (NmV (b1 || b2) (ofL L3)))) (st_gr (fun _ _ h => h) (fun _ _ _ h => h) NmV.gr) (.no rfl) ?_ ?_
  · intro ρ k W hI hf
    obtain ⟨hρ0, ⟨A', n', c', hρ1, hn', hr', _⟩, _⟩ := hf
    have e0 : ρ (.func 16) = .func (.func 16) #[] #[] := hρ0
    have e1 : ρ (.tmp 9) = .agg #[.bool (!b1 && !b2), .slice A' n' c'] := hρ1
    clear hI hρ0 hρ1
    go_simp
    refine (HN3.out _ _ c' _ hn' hr').mono ?_
    rintro e W' ⟨A', n', c', rfl, hn', hr', h1, h2, hg'⟩
    exact ⟨_, rfl, ⟨_, _, _, rfl, hn', hr', h1, h2⟩, hg'⟩
  intro W hW
  have hW : Gr w1 W := hW
  simp only [List.reverse_cons, List.reverse_nil, List.nil_append, List.cons_append, Vc.finish, Act.put, List.setIfInBounds_toArray, List.set_cons_zero, List.set_cons_succ]
  rintro u6 _ u8 _ u9 _ u10 ⟨A', n', c', rfl, hn', hr', h1, h2⟩ _
  have hrow := hres.gr hW
  have hq0 : W.cell? ⟨w.heap.size + 1 + 1, 0, none⟩ = some (.bool false) := hrow.cell 0
  have hq1 : W.cell? ⟨w.heap.size + 1 + 1, 1, none⟩ = some (.slice none 0 0) := hrow.cell 1
  have hf0 : W.frozen? ⟨w.heap.size + 1 + 1, 0, none⟩ = false := hrow.frozen 0
  have hf1 : W.frozen? ⟨w.heap.size + 1 + 1, 1, none⟩ = false := hrow.frozen 1
  simp only [List.drop_succ_cons, List.drop_zero]
  obtain ⟨hR, ho, hG⟩ := res2 hrow (hg1.trans' hW) (by omega) (.bool (b1 || b2)) (.slice A' n' c')
  generalize hb3 : (b1 || b2) = b3 at *
  clear hb3
  replace hR := Lib.hid hR
  replace ho := Lib.hid ho
  replace hG := Lib.hid hG
  go_wp2_with fail
  have hs0 := hR.out.cell 0
  have hs1 := hR.out.cell 1
  simp only [List.getElem?_cons_zero, List.getElem?_cons_succ] at hs0 hs1
  (try simp only [Exit.inBlock, Exit.then])
  refine bodyPost_ret (v := ?_) ?_ rfl ?_
  rotate_left
  · simp [results, Try.results20, go_sem, hs0, hs1]
    (try rfl)
  exact ⟨A', n', c', rfl, hn', hr'.keepStr hrow (by simp) ho.out, h1, h2, hG.out⟩
end Go.Proofs.Ytbjkfllghkcgcaa
