/- Package cadencelaw15: Act.Do. -/
import Derived.Test.YtopellbmmkflgaaRfD
set_option linter.unusedVariables false
set_option linter.unusedSimpArgs false
namespace Go.Proofs.Ytopellbmmkflgaa
open Go.RowKit Go.Maps Go.Sort
attribute [local go_sem] Vc.known_tmp Vc.known_const Vc.known_func Vc.known_global Vc.lk Vc.okUpon Vc.Fact.holds
/-- What an act makes of the state. -/
def actDo (s : V) (K N : Int) (nm b : Str) (ks : List Int) : V :=
  if K % 9 ≤ 3 then (s.write (actName N nm) b).1 else if K % 9 = 4 then (s.remove (actName N nm)).1 else if K % 9 ≤ 6 then s.flush.1 else if K % 9 = 7 then s.stopAt (N % 8 - 1) else s.crash ks
/-- Both, and a row of the call's own. -/
structure DR (w0 W : World) (X R : Nat → Prop) (p q : Nat) (a b : V) (g : Nat) (cs : List Value) : Prop where
  s : SR w0 W X R p q a b
  row : Row W g 53 cs
  nx : ¬ X g
  nr : ¬ R g
section
variable {w0 W W' : World} {X X' R R' : Nat → Prop} {p q g : Nat} {a a' b b' : V} {cs : List Value}
theorem DR.stepV (h : DR w0 W X R p q a b g cs) (ha : At W' X' p a') (hm : Mv W X W' X') : DR w0 W' X' R p q a' b g cs :=
  ⟨h.s.stepV ha hm, (hm.row h.row h.nx).1, (hm.row h.row h.nx).2, h.nr⟩
theorem DR.stepX (h : DR w0 W X R p q a b g cs) (ha : RAt W' R' q b') (hm : Mv W R W' R') : DR w0 W' X R' p q a b' g cs :=
  ⟨h.s.stepX ha hm, (hm.row h.row h.nr).1, h.nx, (hm.row h.row h.nr).2⟩
theorem DR.more (h : DR w0 W X R p q a b g cs) (hg : Gr W W') : DR w0 W' X R p q a b g cs := ⟨h.s.more hg, h.row.gr hg, h.nx, h.nr⟩
def DE (w0 W : World) (p q : Nat) (a b : V) (g : Nat) (cs : List Value) : Prop := ∃ X R, DR w0 W X R p q a b g cs
theorem DE.more (h : DE w0 W p q a b g cs) (hg : Gr W W') : DE w0 W' p q a b g cs := by
  obtain ⟨X, R, h⟩ := h
  exact ⟨X, R, h.more hg⟩
theorem DE.row (h : DE w0 W p q a b g cs) : Row W g 53 cs := by
  obtain ⟨X, R, h⟩ := h
  exact h.row
theorem DE.gr (h : DE w0 W p q a b g cs) : Gr w0 W := by
  obtain ⟨X, R, h⟩ := h
  exact h.s.v.gr
/-- Appending onto an empty slice of no room. -/
theorem gr_of_empty {e : TypeId} {k : Nat} {B : Nat} {A A' : Option Addr} (ho : Own W B e k A 0 0 []) (hk : AppK W W' A A' []) : Gr W W' := by
  rcases hk.2.1 with ⟨rfl, hg⟩ | ⟨rfl, hg⟩
  · rcases ho.2 with ⟨rfl, _⟩ | ⟨g, rest, rfl, hb, hr, _, _, hl⟩
    · exact only_gr hg
    · have hrest : rest = [] := List.eq_nil_of_length_eq_zero (by simpa using hl)
      subst hrest
      obtain ⟨r', hr', hl'⟩ := hk.2.2 g e [] rfl hr
      have hr0 : r' = [] := List.eq_nil_of_length_eq_zero hl'
      subst hr0
      refine ⟨hg.os, hg.tape, hg.output, hg.size, fun i hi => ?_⟩
      by_cases e1 : i = g
      · subst e1
        exact hr'.trans hr.symm
      · exact hg.block i hi (fun e2 => by injection e2 with e2; exact e1 e2)
  · exact hg
end
/-- What a step leaves of the whole. -/
def HD1 (w0 : World) (p q : Nat) (a b : V) (g : Nat) (cs : List Value) : Nat → World → Prop := fun k W =>
  match k with
  | 0 => DE w0 W p q a a g cs
  | 1 => DE w0 W p q b a g cs
  | _ => DE w0 W p q b b g cs
theorem HD1.all {w0 W : World} {p q g : Nat} {a b : V} {cs : List Value} {k : Nat} (h : HD1 w0 p q a b g cs k W) : ∃ c d, DE w0 W p q c d g cs := by
  unfold HD1 at h
  split at h
  · exact ⟨_, _, h⟩
  · exact ⟨_, _, h⟩
  · exact ⟨_, _, h⟩
theorem HD1.more {w0 W W' : World} {p q g : Nat} {a b : V} {cs : List Value} {k : Nat} (h : HD1 w0 p q a b g cs k W) (hg : Gr W W') : HD1 w0 p q a b g cs k W' := by
  unfold HD1 at h ⊢
  split at h
  · exact h.more hg
  · exact h.more hg
  · exact h.more hg
theorem iv_one (l : List Int) : ∀ u ∈ l.map iv, u.oneCell' = true := by
  intro u hu
  obtain ⟨y, _, rfl⟩ := List.mem_map.1 hu
  rfl
theorem own_empty2 (w : World) (o : Obj) (e : TypeId) : Own ((w.alloc o).alloc (.cells #[] e)) (w.heap.size + 1) e 1 (some ⟨w.heap.size + 1, 0, none⟩) 0 0 [] := by
  have h := Own.empty (w.alloc o) e 1
  rwa [show (w.alloc o).heap.size = w.heap.size + 1 by simp] at h
theorem info_int : (Try.prog.info? 3).map (fun i => (i.zero, i.size, i.bytes)) = some (some (.int .i64 0), 1, 8) := by kernel_rfl
theorem act_cells {W : World} {g : Nat} {K N : Int} {nm : Str} {x y : Value} (h : Row W g 53 [.int .i64 K, .int .i64 N, encStr nm, x, y]) :
    W.cell? ⟨g, 0, none⟩ = some (.int .i64 K) ∧ W.cell? ⟨g, 1, none⟩ = some (.int .i64 N) ∧ W.cell? ⟨g, 2, none⟩ = some (encStr nm) ∧ W.cell? ⟨g, 3, none⟩ = some x ∧ W.cell? ⟨g, 4, none⟩ = some y :=
  ⟨h.cell 0, h.cell 1, h.cell 2, h.cell 3, h.cell 4⟩
theorem remove20 {s : V} (hok : s.Ok) (n : Str) (h : (s.now.get n).isSome) : n.length ≤ 20 := by
  obtain ⟨b, hb⟩ := Option.isSome_iff_exists.1 h
  exact (hok.nowB _ (get_some hb)).1

set_option maxRecDepth 20000 in
set_option maxHeartbeats 8000000 in
theorem actdo_any {w0 w : World} {X R : Nat → Prop} {p q : Nat} {s : V} (hS : SR w0 w X R p q s s) (hs : Sm s) (hss : Sm s.step) (K N : Int) (K0 : -9223372036854775808 ≤ K) (K1 : K ≤ 9223372036854775807) (N0 : -9223372036854775808 ≤ N) (N1 : N ≤ 9223372036854775807)
    (nm : Str) (hnm : nm.length ≤ 40) (Ab : Option Addr) (nb cb : Nat) (b : Str) (hb : Hid (b.length = nb)) (hrB : Rd w0 Ab (b.map bv)) (hbl : nb ≤ 200) (Ak : Option Addr) (nk ck : Nat) (ks : List Int) (hk : Hid (ks.length = nk)) (hrK : Rd w0 Ak (ks.map iv)) (hkl : nk ≤ 60) :
    Calls Try.prog 26 #[actV K N nm Ab nb cb Ak nk ck, .pointer (some ⟨p, 0, none⟩), .pointer (some ⟨q, 0, none⟩)] w fun e w' => e = .returned (.bool true) ∧ ∃ X' R', SR w0 w' X' R' p q (actDo s K N nm b ks) (actDo s K N nm b ks) := by
  unfold actV
  have HI := Lib.hid (fun W => within1_any K 9 W K0 K1 (by decide) (by decide))
  have k0 := Int.emod_nonneg K (show (9 : Int) ≠ 0 by decide)
  have k1 := Int.emod_lt_of_pos K (show (0 : Int) < 9 by decide)
  have hD : DR w0 (w.alloc (.cells [.int .i64 K, .int .i64 N, encStr nm, .slice Ab nb cb, .slice Ak nk ck].toArray 53)) X R p q s s w.heap.size [.int .i64 K, .int .i64 N, encStr nm, .slice Ab nb cb, .slice Ak nk ck] :=
    ⟨hS.more (Gr.alloc1 _ _), Row.new _ _ _, fun hx => absurd (hS.v.at_.lt _ hx) (by omega), fun hx => absurd (hS.x.lt _ hx) (by omega)⟩
  have HNm := Lib.hid (fun W => actname_any K N nm Ab nb cb Ak nk ck W N0 N1)
  unfold actV at HNm
  have hnl := actName_le N hnm
  have hok := hS.v.ok
  obtain ⟨i0, hi0, hz0, hz1, hz2⟩ := info_parts info_u8
  generalize hnn : actName N nm = nn at *
  have hcase : K % 9 = 0 ∨ K % 9 = 1 ∨ K % 9 = 2 ∨ K % 9 = 3 ∨ K % 9 = 4 ∨ K % 9 = 5 ∨ K % 9 = 6 ∨ K % 9 = 7 ∨ K % 9 = 8 := by omega
  clear hS
  rcases hcase with hc | hc | hc | hc | hc | hc | hc | hc | hc
  case inl | inr.inl | inr.inr.inl | inr.inr.inr.inl =>
    have hst : (s.write nn b).1 = actDo s K N nm b ks := by unfold actDo; rw [if_pos (by omega), hnn]
    rw [hc] at HI
    replace hst := Lib.hid hst
    clear k0 k1 hc hnn
    go_enter Try.func26, Try.ntmps26
    go_wp2_with (go_at_call 11; (with_reducible refine (HI.out _).mono ?_); rintro e w1 ⟨rfl, rfl⟩; clear HI)
    generalize hgg : w.heap.size = g at *
    generalize w.alloc (.cells #[.int .i64 K, .int .i64 N, encStr nm, .slice Ab nb cb, .slice Ak nk ck] 53) = w1 at *
    clear hgg
    have hE : DE w0 w1.drew p q s s g [.int .i64 K, .int .i64 N, encStr nm, .slice Ab nb cb, .slice Ak nk ck] := ⟨X, R, hD.more (Gr.draw _)⟩
    generalize hs1 : (s.write nn b).1 = s1 at *
    generalize hans : (s.write nn b).2 = an at *
    have HW := Lib.hid (fun (W : World) (X : Nat → Prop) (ha : At W X p s) A n c hn hr => write_any ha hs nn (by unfold maxLen; omega) A n c b hn hr (by have := hb.out; have := hn.out; omega))
    have HX := Lib.hid (fun (W : World) (X : Nat → Prop) (ha : RAt W X q s) => rwrite_any ha hs nn b (by have := hb.out; omega))
    rw [hs1, hans] at HW HX
    clear hD
    replace hs1 := Lib.hid hs1
    replace hans := Lib.hid hans
    have hss1 := Lib.hid (fun (W : World) (hW : Gr w0 W) => str_at cb hb.out (hrB.gr hW))
    have e0 : (an == an) = true := by simp
    refine Vc.wp_region_facts ⟨Gr, fun _ _ _ => True, HD1 w0 p q s s1 g [.int .i64 K, .int .i64 N, encStr nm, .slice Ab nb cb, .slice Ak nk ck], [7, 14]⟩ (by kernel_rfl) (by kernel_rfl) (fun _ _ _ h h' => h'.more h) hE ?_
    repeat
      refine Vc.Walk.pure (v := ?_) (fun _ => Gr.rfl' _) rfl (by first | exact Vc.GuardYes.no rfl | exact Vc.GuardYes.yes rfl rfl) rfl rfl ?_ ?_
      rotate_left
      · intro _ W hI
        (obtain ⟨a1, a2, hd⟩ := hI.g.all; clear hI; obtain ⟨q0, q1, q2, q3, q4⟩ := act_cells hd.row)
        go_simp
        exact rfl
    refine Vc.Walk.call (.is (encStr nn)) trivial (.no rfl) rfl rfl ?_ ?_
    · intro k W hI
      clear hI
      go_simp
      refine (HNm.out W).mono ?_
      rintro e W' ⟨rfl, hg'⟩
      exact ⟨_, rfl, rfl, hg'⟩
    refine Vc.Walk.any (.fits (Vc.At 0 fun v W => ∃ g, v = .slice (some ⟨g, 0, none⟩) 0 0 ∧ Own W 0 5 1 (some ⟨g, 0, none⟩) 0 0 [])) (Vc.At.stable (fun u W W' hl hf => by obtain ⟨g, e, h⟩ := hf; exact ⟨g, e, h.gr hl⟩)) (.no rfl) ?_ ?_
    · intro ρ k W hI hf
      have hk := hI.le 0 7 rfl (by kernel_rfl)
      obtain rfl : k = 0 := by omega
      clear hI hf
      go_simp
      exact ⟨⟨Nat.le_refl _, fun _ => ⟨_, rfl, (Own.empty W 5 1).more (fun _ _ => Nat.zero_le _)⟩⟩, Gr.alloc1 _ _⟩
    repeat
      refine Vc.Walk.pure (v := ?_) (fun _ => Gr.rfl' _) rfl (by first | exact Vc.GuardYes.no rfl | exact Vc.GuardYes.yes rfl rfl) rfl rfl ?_ ?_
      rotate_left
      · intro _ W hI
        (obtain ⟨a1, a2, hd⟩ := hI.g.all; clear hI; obtain ⟨q0, q1, q2, q3, q4⟩ := act_cells hd.row)
        go_simp
        exact rfl
    refine Vc.Walk.any (.fits (Vc.At 0 fun v W => ∃ A c, v = .slice A nb c ∧ Own W 0 5 1 A nb c (b.map bv))) (Vc.At.stable (fun u W W' hl hf => by obtain ⟨A, c, e, h⟩ := hf; exact ⟨A, c, e, h.gr hl⟩)) (.no rfl) ?_ ?_
    · intro ρ k W hI hf
      have hk := hI.le 0 7 rfl (by kernel_rfl)
      obtain rfl : k = 0 := by omega
      have hd := (show DE w0 W p q s s g _ from hI.g)
      have hrd := hrB.gr hd.gr
      obtain ⟨⟨_, hf1⟩, hρ2, _⟩ := hf
      obtain ⟨ga, hρ1, hoa⟩ := hf1 (Nat.le_refl _)
      have e1 : ρ (.tmp 28) = .slice (some ⟨ga, 0, none⟩) 0 0 := hρ1
      have e2 : ρ (.tmp 30) = .slice Ab nb cb := hρ2
      obtain ⟨A3, c3, W', hrun, ho3, hk3⟩ := run_append (P := Try.prog) W 0 31 31 5 i0 _ 1 1 Try.underlying31 hi0 hz0 hz1 hz2 rfl (by omega) (some ⟨ga, 0, none⟩) 0 0 [] hoa Ab nb cb (b.map bv) (by have := hb.out; simpa using this) hrd (bv_one b) (by omega) (by unfold maxLen; omega) (Nat.zero_le _)
      have hgr := gr_of_empty hoa hk3
      rw [Nat.zero_add] at hrun ho3
      clear hI hf1 hρ1 hρ2 hk3
      unfold execOp
      simp only [resolve, invoke, builtin, Sem.run_bind, Sem.run_pure, Result.andThen_ok, List.map_toArray, List.map_cons, List.map_nil, e1, e2, hrun, Vc.okUpon]
      exact ⟨⟨Nat.le_refl _, fun _ => ⟨_, _, rfl, by simpa using ho3⟩⟩, hgr⟩
    refine Vc.Walk.any (.is (.int .i64 an)) trivial (.no rfl) ?_ ?_
    · intro ρ k W hI hf
      obtain rfl := hI.eq 0 rfl
      obtain ⟨hρ0, hρ1, hρ2, ⟨_, hf3⟩, _⟩ := hf
      obtain ⟨A3, c3, hρ3, ho3⟩ := hf3 (Nat.le_refl _)
      have e0 : ρ (.func 13) = .func (.func 13) #[] #[] := hρ0
      have e1 : ρ (.tmp 25) = .pointer (some ⟨p, 0, none⟩) := hρ1
      have e2 : ρ (.tmp 27) = encStr nn := hρ2
      have e3 : ρ (.tmp 31) = .slice A3 nb c3 := hρ3
      obtain ⟨X1, R1, hd⟩ := (show DE w0 W p q s s g _ from hI.g)
      clear hI hf3 hρ0 hρ1 hρ2 hρ3
      go_simp
      refine (HW.out W X1 hd.s.v.at_ A3 nb c3 hb ho3.rd).mono ?_
      rintro e W' ⟨rfl, X', ha', hm'⟩
      exact ⟨_, rfl, rfl, trivial, X', R1, hd.stepV ha' hm'⟩
    repeat
      refine Vc.Walk.pure (v := ?_) (fun _ => Gr.rfl' _) rfl (by first | exact Vc.GuardYes.no rfl | exact Vc.GuardYes.yes rfl rfl) rfl rfl ?_ ?_
      rotate_left
      · intro _ W hI
        (obtain ⟨a1, a2, hd⟩ := hI.g.all; clear hI; obtain ⟨q0, q1, q2, q3, q4⟩ := act_cells hd.row)
        go_simp
        exact rfl
    refine Vc.Walk.call (.is (encStr nn)) trivial (.no rfl) rfl rfl ?_ ?_
    · intro k W hI
      clear hI
      go_simp
      refine (HNm.out W).mono ?_
      rintro e W' ⟨rfl, hg'⟩
      exact ⟨_, rfl, rfl, hg'⟩
    repeat
      refine Vc.Walk.pure (v := ?_) (fun _ => Gr.rfl' _) rfl (by first | exact Vc.GuardYes.no rfl | exact Vc.GuardYes.yes rfl rfl) rfl rfl ?_ ?_
      rotate_left
      · intro _ W hI
        (obtain ⟨a1, a2, hd⟩ := hI.g.all; clear hI; obtain ⟨q0, q1, q2, q3, q4⟩ := act_cells hd.row; have s7 := hss1.out W hd.gr)
        go_simp
        exact rfl
    refine Vc.Walk.call (.is (.int .i64 an)) trivial (.no rfl) rfl rfl ?_ ?_
    · intro k W hI
      obtain rfl := hI.eq 1 rfl
      obtain ⟨X1, R1, hd⟩ := (show DE w0 W p q s1 s g _ from hI.g)
      clear hI
      go_simp
      refine (HX.out W R1 hd.s.x).mono ?_
      rintro e W' ⟨rfl, R', ha', hm'⟩
      exact ⟨_, rfl, rfl, trivial, X1, R', hd.stepX ha' hm'⟩
    repeat
      refine Vc.Walk.pure (v := ?_) (fun _ => Gr.rfl' _) rfl (by first | exact Vc.GuardYes.no rfl | exact Vc.GuardYes.yes rfl rfl) rfl rfl ?_ ?_
      rotate_left
      · intro _ W hI
        (clear hI)
        go_simp
        exact rfl
    rintro W ⟨X1, R1, hd⟩
    simp only [List.reverse_cons, List.reverse_nil, List.nil_append, List.cons_append, Vc.finish, Act.put, List.setIfInBounds_toArray, List.set_cons_zero, List.set_cons_succ]
    rintro u28 _ u31 _
    go_wp2_with fail
    go_ret
    rw [← hst.out]
    exact ⟨rfl, X1, R1, hd.s⟩
  · have hst : (s.remove nn).1 = actDo s K N nm b ks := by unfold actDo; rw [if_neg (by omega), if_pos hc, hnn]
    rw [hc] at HI
    replace hst := Lib.hid hst
    clear k0 k1 hc hnn
    go_enter Try.func26, Try.ntmps26
    go_wp2_with (go_at_call 11; (with_reducible refine (HI.out _).mono ?_); rintro e w1 ⟨rfl, rfl⟩; clear HI)
    generalize hgg : w.heap.size = g at *
    generalize w.alloc (.cells #[.int .i64 K, .int .i64 N, encStr nm, .slice Ab nb cb, .slice Ak nk ck] 53) = w1 at *
    clear hgg
    have hE : DE w0 w1.drew p q s s g [.int .i64 K, .int .i64 N, encStr nm, .slice Ab nb cb, .slice Ak nk ck] := ⟨X, R, hD.more (Gr.draw _)⟩
    generalize hs1 : (s.remove nn).1 = s1 at *
    generalize hans : (s.remove nn).2 = an at *
    have HW := Lib.hid (fun (W : World) (X : Nat → Prop) (ha : At W X p s) => remove_any ha hs nn (by unfold maxLen; omega))
    have HX := Lib.hid (fun (W : World) (X : Nat → Prop) (ha : RAt W X q s) => rremove_any ha hs nn (remove20 hok nn))
    rw [hs1, hans] at HW HX
    clear hD
    replace hs1 := Lib.hid hs1
    replace hans := Lib.hid hans
    have e0 : (an == an) = true := by simp
    refine Vc.wp_region_facts ⟨Gr, fun _ _ _ => True, HD1 w0 p q s s1 g [.int .i64 K, .int .i64 N, encStr nm, .slice Ab nb cb, .slice Ak nk ck], [3, 7]⟩ (by kernel_rfl) (by kernel_rfl) (fun _ _ _ h h' => h'.more h) hE ?_
    repeat
      refine Vc.Walk.pure (v := ?_) (fun _ => Gr.rfl' _) rfl (by first | exact Vc.GuardYes.no rfl | exact Vc.GuardYes.yes rfl rfl) rfl rfl ?_ ?_
      rotate_left
      · intro _ W hI
        (obtain ⟨a1, a2, hd⟩ := hI.g.all; clear hI; obtain ⟨q0, q1, q2, q3, q4⟩ := act_cells hd.row)
        go_simp
        exact rfl
    refine Vc.Walk.call (.is (encStr nn)) trivial (.no rfl) rfl rfl ?_ ?_
    · intro k W hI
      clear hI
      go_simp
      refine (HNm.out W).mono ?_
      rintro e W' ⟨rfl, hg'⟩
      exact ⟨_, rfl, rfl, hg'⟩
    refine Vc.Walk.call (.is (.int .i64 an)) trivial (.no rfl) rfl rfl ?_ ?_
    · intro k W hI
      obtain rfl := hI.eq 0 rfl
      obtain ⟨X1, R1, hd⟩ := (show DE w0 W p q s s g _ from hI.g)
      clear hI
      go_simp
      refine (HW.out W X1 hd.s.v.at_).mono ?_
      rintro e W' ⟨rfl, X', ha', hm'⟩
      exact ⟨_, rfl, rfl, trivial, X', R1, hd.stepV ha' hm'⟩
    repeat
      refine Vc.Walk.pure (v := ?_) (fun _ => Gr.rfl' _) rfl (by first | exact Vc.GuardYes.no rfl | exact Vc.GuardYes.yes rfl rfl) rfl rfl ?_ ?_
      rotate_left
      · intro _ W hI
        (obtain ⟨a1, a2, hd⟩ := hI.g.all; clear hI; obtain ⟨q0, q1, q2, q3, q4⟩ := act_cells hd.row)
        go_simp
        exact rfl
    refine Vc.Walk.call (.is (encStr nn)) trivial (.no rfl) rfl rfl ?_ ?_
    · intro k W hI
      clear hI
      go_simp
      refine (HNm.out W).mono ?_
      rintro e W' ⟨rfl, hg'⟩
      exact ⟨_, rfl, rfl, hg'⟩
    refine Vc.Walk.call (.is (.int .i64 an)) trivial (.no rfl) rfl rfl ?_ ?_
    · intro k W hI
      obtain rfl := hI.eq 1 rfl
      obtain ⟨X1, R1, hd⟩ := (show DE w0 W p q s1 s g _ from hI.g)
      clear hI
      go_simp
      refine (HX.out W R1 hd.s.x).mono ?_
      rintro e W' ⟨rfl, R', ha', hm'⟩
      exact ⟨_, rfl, rfl, trivial, X1, R', hd.stepX ha' hm'⟩
    repeat
      refine Vc.Walk.pure (v := ?_) (fun _ => Gr.rfl' _) rfl (by first | exact Vc.GuardYes.no rfl | exact Vc.GuardYes.yes rfl rfl) rfl rfl ?_ ?_
      rotate_left
      · intro _ W hI
        (clear hI)
        go_simp
        exact rfl
    rintro W ⟨X1, R1, hd⟩
    simp only [List.reverse_cons, List.reverse_nil, List.nil_append, List.cons_append, Vc.finish, Act.put, List.setIfInBounds_toArray, List.set_cons_zero, List.set_cons_succ]
    go_wp2_with fail
    go_ret
    rw [← hst.out]
    exact ⟨rfl, X1, R1, hd.s⟩
  case inr.inr.inr.inr.inr.inl | inr.inr.inr.inr.inr.inr.inl =>
    have hst : s.flush.1 = actDo s K N nm b ks := by unfold actDo; rw [if_neg (by omega), if_neg (by omega), if_pos (by omega)]
    rw [hc] at HI
    replace hst := Lib.hid hst
    clear k0 k1 hc hnn HNm
    generalize hgg : w.heap.size = g at *
    have HW := Lib.hid (flush_any hD.s.v.at_ hs)
    have HX := Lib.hid (fun (W : World) (R : Nat → Prop) (ha : RAt W R q s) => rflush_any ha hs hss)
    generalize hs1 : s.flush.1 = s1 at *
    generalize hans : s.flush.2 = an at *
    have hD := Lib.hid hD.s
    replace hs1 := Lib.hid hs1
    replace hans := Lib.hid hans
    replace hgg := Lib.hid hgg
    have e0 : (an == an) = true := by simp
    go_enter Try.func26, Try.ntmps26
    go_wp2_with (first
      | (go_at_call 11; (with_reducible refine (HI.out _).mono ?_); rintro e w1 ⟨rfl, rfl⟩; clear HI)
      | (go_at_call 19; (with_reducible refine HW.out.mono ?_); rintro e w2 ⟨rfl, X2, ha2, hm2⟩
         have hD2 := Lib.hid (hD.out.stepV ha2 hm2))
      | (go_at_call 39; (with_reducible refine (HX.out _ _ hD2.out.x).mono ?_); rintro e w3 ⟨rfl, R3, ha3, hm3⟩
         have hD3 := Lib.hid (hD2.out.stepX ha3 hm3)))
    go_ret
    rw [← hst.out]
    exact ⟨rfl, X2, R3, hD3.out⟩
  · have hst : s.stopAt (N % 8 - 1) = actDo s K N nm b ks := by unfold actDo; rw [if_neg (by omega), if_neg (by omega), if_neg (by omega), if_pos hc]
    rw [hc] at HI
    have HJ := Lib.hid (fun W => within1_any N 8 W N0 N1 (by decide) (by decide))
    have HJ2 := HJ
    have n0 := Int.emod_nonneg N (show (8 : Int) ≠ 0 by decide)
    have n1 := Int.emod_lt_of_pos N (show (0 : Int) < 8 by decide)
    generalize N % 8 = m at *
    have HW := Lib.hid (stop_any hD.s.v.at_ (m - 1))
    have HX := Lib.hid (fun (W : World) (R : Nat → Prop) (ha : RAt W R q s) => rstop_any ha (m - 1))
    have hrow := Lib.hid hD
    generalize hs1 : s.stopAt (m - 1) = s1 at *
    replace hst := Lib.hid hst
    replace hs1 := Lib.hid hs1
    clear k0 k1 hc hnn HNm hD
    obtain ⟨q0, q1, q2, q3, q4⟩ := act_cells hrow.out.row
    go_enter Try.func26, Try.ntmps26
    go_wp2_with (first
      | (go_at_call 11; (with_reducible refine (HI.out _).mono ?_); rintro e w1 ⟨rfl, rfl⟩; clear HI)
      | (go_at_call 11; (with_reducible refine (HJ.out _).mono ?_); rintro e w1 ⟨rfl, rfl⟩; clear HJ)
      | (go_at_call 11; (with_reducible refine (HJ2.out _).mono ?_); rintro e w1 ⟨rfl, rfl⟩; clear HJ2)
      | (go_at_call 22; (with_reducible refine HW.out.mono ?_); rintro e w2 ⟨rfl, ha2, hm2⟩
         have hD2 := Lib.hid (hrow.out.stepV ha2 hm2)
         clear q0 q1 q2 q3 q4
         obtain ⟨q0, q1, q2, q3, q4⟩ := act_cells hD2.out.row)
      | (go_at_call 40; (with_reducible refine (HX.out _ _ hD2.out.s.x).mono ?_); rintro e w3 ⟨rfl, ha3, hm3⟩
         have hD3 := Lib.hid (hD2.out.stepX ha3 hm3)))
    go_ret
    rw [← hst.out]
    exact ⟨rfl, X, R, hD3.out.s⟩
  · have hst : s.crash ks = actDo s K N nm b ks := by unfold actDo; rw [if_neg (by omega), if_neg (by omega), if_neg (by omega), if_neg (by omega)]
    rw [hc] at HI
    replace hst := Lib.hid hst
    clear k0 k1 hc hnn HNm
    obtain ⟨j0, hj0, hy0, hy1, hy2⟩ := info_parts info_int
    have hXl : ∀ g, w.heap.size + 1 ≤ g → ¬ X g := fun g hg hx => by
      have := hD.s.v.at_.lt g hx
      simp at this
      omega
    generalize hs1 : s.crash ks = s1 at *
    have HW := Lib.hid (fun (W : World) (X : Nat → Prop) (ha : At W X p s) A n c hn hr hB hl => crash_any ha hs A n c ks hn hr hB hl)
    have HX := Lib.hid (fun (W : World) (X : Nat → Prop) (ha : RAt W X q s) hr => rcrash_any ha hs Ak nk ck ks hk hr (by omega))
    rw [hs1] at HW HX
    replace hs1 := Lib.hid hs1
    have hkl2 := Lib.hid (show (ks.map iv).length = nk * 1 by rw [List.length_map, hk.out, Nat.mul_one])
    obtain ⟨q0, q1, q2, q3, q4⟩ := act_cells hD.row
    replace hD := Lib.hid hD
    go_enter Try.func26, Try.ntmps26
    go_wp2_with (first
      | (go_at_call 11; (with_reducible refine (HI.out _).mono ?_); rintro e w1 ⟨rfl, rfl⟩; clear HI)
      | (at_builtin; with_reducible refine wpList_append (o := ⟨some 14, _, _, _, _, _⟩) _ rfl _ _ 22 rfl (w.heap.size + 1) 3 j0 _ 1 8 Try.underlying22 hj0 hy0 hy1 hy2 rfl (by omega) _ 0 0 [] rfl (own_empty2 w _ 3) Ak nk _ (ks.map iv) rfl hkl2.out (hrK.gr (hD.out.s.v.gr.trans' (Gr.alloc1 _ _))) (iv_one ks) (by omega) (by unfold maxLen; omega) (by simp) ?_
         intro A3 c3 w3 ho3 hk3
         have hg3 := Gr.grownBk (Gr.alloc1 (w.alloc (.cells #[.int .i64 K, .int .i64 N, encStr nm, .slice Ab nb cb, .slice Ak nk ck] 53)) _) hk3.grown (fun g e => by injection e with e; rw [← e]; simp)
         have hD3 := Lib.hid (hD.out.more hg3)
         rw [Nat.zero_add, List.nil_append] at ho3
         have HW2 := Lib.hid (HW.out w3 X hD3.out.s.v.at_ A3 nk c3 hk ho3.rd (fun _ ad e hx => hXl _ (ho3.blk ad.block (by rw [e]; rfl)).1 hx) (by omega)))
      | (go_at_call 20; (with_reducible refine HW2.out.mono ?_); rintro e w4 ⟨rfl, X4, ha4, hm4⟩
         have hD4 := Lib.hid (hD3.out.stepV ha4 hm4)
         clear q0 q1 q2 q3 q4
         obtain ⟨q0, q1, q2, q3, q4⟩ := act_cells hD4.out.row
         have HX2 := Lib.hid (HX.out w4 R hD4.out.s.x (hrK.gr hD4.out.s.v.gr)))
      | (go_at_call 41; (with_reducible refine HX2.out.mono ?_); rintro e w5 ⟨rfl, R5, ha5, hm5⟩
         have hD5 := Lib.hid (hD4.out.stepX ha5 hm5)))
    go_ret
    rw [← hst.out]
    exact ⟨rfl, X4, R5, hD5.out.s⟩
end Go.Proofs.Ytopellbmmkflgaa
