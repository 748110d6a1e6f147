/- Package vfs: done: a change is done and kept. -/
import Derived.Test.YtopellbmmkflgaaVfC1
import Derived.Test.YtopellbmmkflgaaVc2
set_option linter.unusedVariables false
set_option linter.unusedSimpArgs false
namespace Go.Proofs.Ytopellbmmkflgaa
open Go.RowKit Go.Maps Go.Sort
attribute [local go_sem] Vc.known_tmp Vc.known_const Vc.known_func Vc.known_global Vc.lk Vc.okUpon Vc.Fact.holds
theorem info_ch : (Try.prog.info? 63).map (fun i => (i.zero, i.size, i.bytes)) = some (some (.agg #[.string ByteArray.empty, .slice none 0 0, .bool false]), 3, 48) := by kernel_rfl
theorem deadNo_eq (d : Bool) : deadNo d = if d then 15 else 0 := rfl
section
variable {X : Nat → Prop} {w w' : World} {p bn bk c : Nat} {A : Option Addr} {s : V}

theorem chCells_one (v : Value) (ch : Ch) (hv : v.oneCell' = true) : ∀ u ∈ chCells (v, ch), u.oneCell' = true := by
  intro u hu
  simp only [chCells, List.mem_cons, List.not_mem_nil, or_false] at hu
  rcases hu with rfl | rfl | rfl
  · rfl
  · exact hv
  · rfl

/-- The row of changes has been appended to, and laid into the object. -/
theorem Mem.appended (h : Mem w X p bn bk A c s) (hg : w.grownBy w' (blkOf A)) {X' : Nat → Prop} {A' : Option Addr} {c' : Nat} {l : List Ch} (hs : SinceAt w' X A' c' l) (hX : ∀ i, X i → X' i) (hx : ∀ g, blkOf A' = some g → X' g) (hl : ∀ i, X' i → i < w'.heap.size) :
    Mem (w'.setCell ⟨p, 2, none⟩ (.slice A' l.length c')) X' p bn bk A' c' { s with since := l } := by
  have hk := h.contOf hg (fun g e => .inr (.inr (.inr e)))
  have hpr : Row w' p 59 (vfsCells bn bk A c s) := (hg.block _ h.row.lt (fun e => h.p_ne_since e.symm rfl)).trans h.row
  have hn : FilesAt w' X bn s.now := h.now.keep (hg.block _ h.now.lt (fun e => h.now_ne_since e.symm rfl)) hk
  have hkp : FilesAt w' X bk s.kept := h.kept.keep (hg.block _ h.kept.lt (fun e => h.kept_ne_since e.symm rfl)) hk
  have hg2 := only_set w' p 2 (.slice A' l.length c')
  have hk2 : ∀ v xs, Cont w' X v xs → Cont (w'.setCell ⟨p, 2, none⟩ (.slice A' l.length c')) X' v xs := fun v xs hc =>
    hc.tr (Tr.of_grown (X := fun i => i = p) hg2 (fun g e => by injection e with e; exact e.symm)) (fun i _ _ hy _ e => by
      subst hy
      unfold Row at hpr
      rw [e] at hpr
      injection hpr with hpr
      injection hpr with _ hpr
      cases hpr) hX
  refine ⟨hpr.set 2 _, hn.keep (hg2.block _ hn.lt ?_) hk2, hkp.keep (hg2.block _ hkp.lt ?_) hk2, hs.keep hg2 ?_ hk2, h.ne, hX _ h.xp, hX _ h.xn, hX _ h.xk, hx, fun i hi => Nat.lt_of_lt_of_le (hl i hi) hg2.size⟩
  · intro e; injection e with e; exact h.p_ne_now e.symm
  · intro e; injection e with e; exact h.p_ne_kept e.symm
  · intro g hga e
    injection e with e
    obtain ⟨z, h1, h2, h3⟩ := hs
    rcases h3.2 with ⟨h0, _⟩ | ⟨g', rest, rfl, hb, hr, r⟩
    · rw [h0] at hga; cases hga
    · injection hga with hga
      subst hga
      exact hpr.ne hr (by decide) e

set_option maxHeartbeats 4000000 in
/-- (*Vfs).done -/
theorem done_any (h : Mem w X p bn bk A c s) (hok : s.Ok) (hs : Sm s) {ch : Ch} {v : Value} (hv : Cont w X v ch.b) (hn : ch.name.length ≤ 20) (hb : ch.b.length ≤ mostRoom) :
    Calls Try.prog 28 #[.pointer (some ⟨p, 0, none⟩), chV v ch] w fun e w' => e = .returned (.int .i64 (deadNo (s.done ch).dead)) ∧ ∃ X', At w' X' p (s.done ch) ∧ Mv w X w' X' := by
  obtain ⟨i0, hi, hz0, hz1, hz2⟩ := info_parts info_ch
  have hlen : s.now.length ≤ 1000000 := Nat.le_trans hok.nowL hs.ops
  have hsl : s.since.length ≤ 1000000 := by have := hok.keptL; have := hs.ops; omega
  obtain ⟨A0, n0, c0, rfl, hv'⟩ := id hv
  have hv := Lib.hid hv
  clear hv'
  have hrow := Row.new w 63 [encStr ch.name, .slice A0 n0 c0, .bool ch.gone]
  have hg1 := Gr.alloc1 w (.cells [encStr ch.name, .slice A0 n0 c0, .bool ch.gone].toArray 63)
  go_enter Try.func28, Try.ntmps28
  unfold chV
  go_wp2_with fail
  have hm := h.gr hg1
  have hnx : ¬ X w.heap.size := fun hx => absurd (h.lt _ hx) (by omega)
  have hv1 : Cont (w.alloc (.cells [encStr ch.name, .slice A0 n0 c0, .bool ch.gone].toArray 63)) X (.slice A0 n0 c0) ch.b := hv.out.tr (Tr.of_gr (X := fun _ => False) hg1) (fun _ _ _ hf => hf.elim) (fun _ h => h)
  have hM1 := Mv.of_gr hg1 X
  have hsz := hrow.lt
  generalize hg0 : w.heap.size = g0 at *
  generalize w.alloc (.cells #[encStr ch.name, .slice A0 n0 c0, .bool ch.gone] 63) = w1 at *
  have hm := hm.gr (Gr.draw w1)
  have hM1 := hM1.trans (Mv.of_gr (Gr.draw w1) X)
  have hrow := hrow.drew
  have hv1 : Cont w1.drew X (.slice A0 n0 c0) ch.b := hv1.tr (Tr.of_gr (X := fun _ => False) (Gr.draw w1)) (fun _ _ _ hf => hf.elim) (fun _ h => h)
  have HD := Lib.hid (do_any (ch := ch) hm.now hv1 hn hlen)
  have y0 := Lib.hid hm.cells.1
  have y1 := Lib.hid (And.intro (hrow.cell 0) (And.intro (hrow.cell 1) (hrow.cell 2)))
  simp only [List.getElem?_cons_zero, List.getElem?_cons_succ] at y1
  unfold chV at HD
  refine Vc.wp_region_split ⟨fun W W' => W = W', fun _ W W' => W = W', fun _ W => W = w1.drew, []⟩ 5 [] (by kernel_rfl) (by kernel_rfl) (by kernel_rfl) (by decide) (by simp) (by simp) (by simp) (fun _ _ h => h ▸ Nat.le_refl _) (fun _ _ _ h => h ▸ Nat.le_refl _) (fun _ _ _ h h' => h ▸ h') rfl ?_
  repeat
    refine Vc.Walk.pure (v := ?_) (fun _ => rfl) rfl (by first | exact Vc.GuardYes.no rfl | exact Vc.GuardYes.yes rfl rfl) rfl rfl ?_ ?_
    rotate_left
    · intro _ W hI
      (obtain rfl := hI.g; clear hI; have q0 := y0.out; have q1 := y1.out.1; have q2 := y1.out.2.1; have q3 := y1.out.2.2)
      go_simp
      exact rfl
  rintro W rfl
  simp only [List.reverse_cons, List.reverse_nil, List.nil_append, List.cons_append, Vc.finish, Act.put, List.setIfInBounds_toArray, List.set_cons_zero, List.set_cons_succ]
  rintro _
  simp only [List.drop_succ_cons, List.drop_zero]
  go_wp2_with (go_at_call 35; (with_reducible refine HD.out.mono ?_); rintro e w2 ⟨rfl, hf2, hg2⟩)
  have hm2 := hm.now_turned hf2 hg2
  have hM2 : Mv w X w2 X := hM1.trans ⟨Tr.of_grown hg2 (fun g e => by injection e with e; exact e ▸ hm.xn), fun _ h => h, fun _ h => .inl h⟩
  have hrow2 : Row w2 g0 63 [encStr ch.name, .slice A0 n0 c0, .bool ch.gone] := hrow.only hg2 (fun e => hnx (e ▸ hm.xn))
  have hv2 := hm.contOf hg2 (fun g e => by injection e with e; exact .inr (.inl e.symm)) _ _ hv1
  clear HD y0 y1 hg2 hf2 hrow hv1 hM1 hm hv hg1 hsz
  have hm2 := hm2.gr (Gr.draw w2)
  have hM2 := hM2.trans (Mv.of_gr (Gr.draw w2) X)
  have hrow2 := hrow2.drew
  have hv2 : Cont w2.drew X (.slice A0 n0 c0) ch.b := hv2.tr (Tr.of_gr (X := fun _ => False) (Gr.draw w2)) (fun _ _ _ hf => hf.elim) (fun _ h => h)
  generalize hw3 : w2.drew = w3 at *
  obtain ⟨z, z1, z2, hown⟩ := id hm2.since
  have z1 : z.map (·.2) = s.since := z1
  have hgne : ∀ g, blkOf A = some g → g0 ≠ g := fun g hg e => hnx (e ▸ hm2.xs g hg)
  have hpne : ∀ g, blkOf A = some g → p ≠ g := fun g hg => hm2.p_ne_since hg
  have y0 := Lib.hid (show w3.cell? ⟨p, 2, none⟩ = some (.slice A s.since.length c) from hm2.cells.2.2.1)
  have y1 := Lib.hid (And.intro (hrow2.cell 0) (And.intro (hrow2.cell 1) (hrow2.cell 2)))
  simp only [List.getElem?_cons_zero, List.getElem?_cons_succ] at y1
  have hown := Lib.hid (show Own w3 0 63 3 A s.since.length c (z.flatMap chCells) from hown)
  generalize hxs : z.flatMap chCells = xs at *
  generalize hnn : s.since.length = n at *
  subst hw3
  refine Vc.wp_region_split ⟨Gr, fun _ W W' => W.grownBy W' (blkOf A), fun k W => w2.drew.grownBy W (blkOf A) ∧ Own W 0 63 3 A n c xs ∧ (k = 0 → Gr w2.drew W), [7]⟩ 10 [] (by kernel_rfl) (by kernel_rfl) (by kernel_rfl) (by decide) (by simp) (by simp) (by simp) (fun _ _ h => h.size) (fun _ _ _ h => h.size) (fun _ _ _ h h' => ⟨only_trans h'.1 (only_of_gr h _), h'.2.1.gr h, fun e => (h'.2.2 e).trans' h⟩) ⟨only_refl _ _, hown.out, fun _ => Gr.rfl' _⟩ ?_
  repeat
    refine Vc.Walk.pure (v := ?_) (fun _ => Gr.rfl' _) rfl (by first | exact Vc.GuardYes.no rfl | exact Vc.GuardYes.yes rfl rfl) rfl rfl ?_ ?_
    rotate_left
    · intro _ W hI
      (have q := hI.g.1; clear hI; have q0 := q.cell y0.out (fun e => hpne _ e.symm rfl); have q1 := q.cell y1.out.1 (fun e => hgne _ e.symm rfl); have q2 := q.cell y1.out.2.1 (fun e => hgne _ e.symm rfl); have q3 := q.cell y1.out.2.2 (fun e => hgne _ e.symm rfl); clear q)
      go_simp
      exact rfl
  refine Vc.Walk.any (.fits (Vc.At 0 fun v W => ∃ g, v = .slice (some ⟨g, 0, none⟩) 1 1 ∧ Rd W (some ⟨g, 0, none⟩) [encStr ch.name, .slice A0 n0 c0, .bool ch.gone])) (Vc.At.stable (fun u W W' hl hf => by obtain ⟨g, e, h⟩ := hf; exact ⟨g, e, h.gr hl⟩)) (.no rfl) ?_ ?_
  · intro ρ k W hI hf
    have hk := hI.le 0 7 rfl (by kernel_rfl)
    obtain rfl : k = 0 := by omega
    have e1 : ρ (.tmp 16) = .agg #[encStr ch.name, .slice A0 n0 c0, .bool ch.gone] := hf.1
    clear hI hf
    go_simp
    exact ⟨⟨Nat.le_refl _, fun _ => ⟨_, rfl, Rd.new W [encStr ch.name, .slice A0 n0 c0, .bool ch.gone] _⟩⟩, Gr.alloc1 _ _⟩
  refine Vc.Walk.any (.fits (Vc.At 1 fun v W => ∃ A' c', v = .slice A' (n + 1) c' ∧ Own W 0 63 3 A' (n + 1) c' (xs ++ [encStr ch.name, .slice A0 n0 c0, .bool ch.gone]) ∧ ∀ g, blkOf A' = some g → blkOf A = some g ∨ w2.drew.heap.size ≤ g)) (Vc.At.stable (fun u W W' hl hf => by obtain ⟨A', c', e, h, h'⟩ := hf; exact ⟨A', c', e, h.gr hl, h'⟩)) (.no rfl) ?_ ?_
  · intro ρ k W hI hf
    obtain rfl := hI.eq 0 rfl
    have hg := hI.g
    obtain ⟨hρ1, ⟨_, hf1⟩, _⟩ := hf
    obtain ⟨g, hρ2, hrd⟩ := hf1 (Nat.le_refl _)
    have e1 : ρ (.tmp 15) = .slice A n c := hρ1
    have e2 : ρ (.tmp 17) = .slice (some ⟨g, 0, none⟩) 1 1 := hρ2
    obtain ⟨A3, c3, W', hrun, ho3, hk3⟩ := run_append (P := Try.prog) W 0 57 57 63 i0 _ 3 48 Try.underlying57 hi hz0 hz1 hz2 rfl (by omega) A n c xs hg.2.1 (some ⟨g, 0, none⟩) 1 1 _ rfl hrd (chCells_one (.slice A0 n0 c0) ch rfl) (by omega) (by unfold maxLen; omega) (Nat.zero_le _)
    have hgr := hg.2.2 rfl
    have hg1 := hg.1
    clear hI hf1 hρ1 hρ2
    unfold execOp
    simp only [resolve, invoke, builtin, Sem.run_bind, Sem.run_pure, Result.andThen_ok, List.map_toArray, List.map_cons, List.map_nil, e1, e2, hrun, Vc.okUpon]
    refine ⟨⟨Nat.le_refl _, fun _ => ⟨_, _, rfl, ho3, fun g' hg' => ?_⟩⟩, hk3.grown, only_trans hg1 hk3.grown, hg.2.1.back hk3.2.2, fun e => absurd e (by simp)⟩
    rcases hk3.2.1 with ⟨rfl, _⟩ | ⟨rfl, _⟩
    · exact .inl hg'
    · injection hg' with hg'
      exact .inr (hg' ▸ hgr.size)
  repeat
    refine Vc.Walk.pure (v := ?_) (fun _ => Gr.rfl' _) rfl (by first | exact Vc.GuardYes.no rfl | exact Vc.GuardYes.yes rfl rfl) rfl rfl ?_ ?_
    rotate_left
    · intro _ W hI
      (clear hI)
      go_simp
      exact rfl
  rintro W ⟨hgW, hoW, _⟩
  simp only [List.reverse_cons, List.reverse_nil, List.nil_append, List.cons_append, Vc.finish, Act.put, List.setIfInBounds_toArray, List.set_cons_zero, List.set_cons_succ]
  rintro u17 _ u18 ⟨_, hu⟩ _
  obtain ⟨A', c', rfl, ho3, hA'⟩ := hu (Nat.le_refl _)
  clear hu
  simp only [List.drop_succ_cons, List.drop_zero]
  have hpW := hgW.cell y0.out (fun e => hpne _ e.symm rfl)
  have hfW : W.frozen? ⟨p, 2, none⟩ = false := (Row.frozen ((hgW.block _ hm2.row.lt (fun e => hpne _ e.symm rfl)).trans hm2.row) 2)
  have hW2 : w2.drew.heap.size ≤ W.heap.size := hgW.size
  have hkW := hm2.contOf hgW (fun g e => .inr (.inr (.inr e)))
  have hs4 : SinceAt W X A' c' (s.since ++ [ch]) := by
    refine ⟨z ++ [(.slice A0 n0 c0, ch)], by simp [z1], fun q hq => ?_, ?_⟩
    · rcases List.mem_append.1 hq with hq | hq
      · exact hkW _ _ (z2 q hq)
      · obtain rfl : q = (.slice A0 n0 c0, ch) := by simpa using hq
        exact hkW _ _ hv2
    · have e1 : (z ++ [((Value.slice A0 n0 c0), ch)]).flatMap chCells = xs ++ [encStr ch.name, .slice A0 n0 c0, .bool ch.gone] := by rw [List.flatMap_append, hxs]; rfl
      have e2 : (s.since ++ [ch]).length = n + 1 := by simp [hnn]
      rw [e1, e2]
      exact ho3
  have hm4 := hm2.appended (X' := fun i => X i ∨ blkOf A' = some i) hgW hs4 (fun _ h => .inl h) (fun g hg => .inr hg) (fun i hi => by
    rcases hi with hi | hi
    · exact Nat.lt_of_lt_of_le (hm2.lt i hi) hW2
    · exact (ho3.blk i hi).2)
  have e2 : (s.since ++ [ch]).length = n + 1 := by simp [hnn]
  rw [e2] at hm4
  have hM4 : Mv w X (W.setCell ⟨p, 2, none⟩ (.slice A' (n + 1) c')) (fun i => X i ∨ blkOf A' = some i) := by
    refine hM2.trans ⟨?_, fun _ h => .inl h, fun i hi => ?_⟩
    · exact (Tr.of_grown (X := X) hgW (fun g e => hm2.xs g e)).trans (Tr.of_grown (X := X) (only_set W p 2 _) (fun g e => by injection e with e; exact e ▸ hm2.xp)) (fun _ _ h => h)
    · rcases hi with hi | hi
      · exact .inl hi
      · rcases hA' i hi with h1 | h1
        · exact .inl (hm2.xs i h1)
        · exact .inr h1
  have HS := Lib.hid (step_any hm4 ⟨hs.ops, hs.stop⟩)
  have hres : (V.step { ({ s with now := ch.act s.now } : V) with since := s.since ++ [ch] }) = s.done ch := rfl
  rw [hres] at HS
  have hok2 := ok_done hok hn hb
  generalize hs5 : s.done ch = s5 at *
  clear hm2 hm4 hs4 hkW hoW ho3 hown y0 y1 hrow2 hv2
  cases hd : s5.dead with
  | true =>
    rw [hd] at HS
    go_wp2_with (go_at_call 33; (with_reducible refine HS.out.mono ?_); rintro e w5 ⟨rfl, hm5, hg5⟩)
    go_ret
    subst hs5
    exact ⟨by rw [hd]; rfl, _, ⟨hok2, _, _, _, _, hm5⟩, hM4.trans ⟨Tr.of_grown hg5 (fun g e => by injection e with e; exact e ▸ hm5.xp), fun _ h => h, fun _ h => .inl h⟩⟩
  | false =>
    rw [hd] at HS
    go_wp2_with (go_at_call 33; (with_reducible refine HS.out.mono ?_); rintro e w5 ⟨rfl, hm5, hg5⟩)
    go_ret
    subst hs5
    exact ⟨by rw [hd]; rfl, _, ⟨hok2, _, _, _, _, hm5⟩, hM4.trans ⟨Tr.of_grown hg5 (fun g e => by injection e with e; exact e ▸ hm5.xp), fun _ h => h, fun _ h => .inl h⟩⟩
end
end Go.Proofs.Ytopellbmmkflgaa
