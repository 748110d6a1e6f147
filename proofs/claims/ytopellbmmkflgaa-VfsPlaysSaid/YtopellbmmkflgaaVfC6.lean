/- Package vfs: Crash. -/
import Derived.Test.YtopellbmmkflgaaVfC5
import Derived.ScopeJumps
import Derived.WalkMore
import Derived.Test.YtopellbmmkflgaaOpen
set_option linter.unusedVariables false
set_option linter.unusedSimpArgs false
namespace Go.Proofs.Ytopellbmmkflgaa
open Go.RowKit Go.Maps Go.Sort
attribute [local go_sem] Vc.known_tmp Vc.known_const Vc.known_func Vc.known_global Vc.lk Vc.okUpon Vc.Fact.holds
theorem jump_mono {l : Nat} {J J' : Act → World → Prop} {Q : Exit → Act → World → Prop} (h : ∀ a w, J a w → J' a w) : ∀ e a w, Exit.jump l J Q e a w → Exit.jump l J' Q e a w := fun e a w hj => by
  cases e <;> first | exact hj | exact ⟨hj.1, h _ _ hj.2⟩
theorem scope_nat {P : Program} {a : Act} {w : World} {Q : Exit → Act → World → Prop} {c rest : Code} (l : Nat) (J : Nat → Act → World → Prop) (hf : findLabel c l = some rest)
    (first : c.wp P (Exit.jump l (fun a w => ∃ n, J n a w) Q) a w)
    (pass : ∀ n a w, J n a w → rest.wp P (Exit.jump l (fun a' w' => ∃ m, m < n ∧ J m a' w') Q) a w) : (Code.scope c).wp P Q a w := by
  intro b k cs
  have hg : gotoIn l (.inScope c :: k) = some (.code rest :: .inScope c :: k) := by simp [gotoIn, hf]
  have key : ∀ n a w, J n a w → ∃ e a' w', Q e a' w' ∧ Arrives P (lone (b.at a (.code rest :: .inScope c :: k)) cs w) b k cs e a' w' := by
    intro n
    induction n using Nat.strongRecOn with
    | _ n ih =>
      intro a w hJ
      obtain ⟨e, a₁, w₁, hq, harr⟩ := pass n a w hJ b (.inScope c :: k) cs
      cases e with
      | normal => exact ⟨.normal, a₁, w₁, hq, Steps.trans harr (.one step_inScope)⟩
      | exit id => exact ⟨.exit id, a₁, w₁, hq, fun k' hk => harr k' (by simp [exitTo, hk])⟩
      | goto l' =>
        obtain ⟨rfl, m, hlt, hJ'⟩ := hq
        obtain ⟨e₂, a₂, w₂, hq₂, harr₂⟩ := ih m hlt a₁ w₁ hJ'
        exact ⟨e₂, a₂, w₂, hq₂, .of_steps (harr _ hg) harr₂⟩
      | ret => exact ⟨_, a₁, w₁, hq, harr⟩
      | panic ch => exact ⟨_, a₁, w₁, hq, harr⟩
      | outgrown => exact ⟨_, a₁, w₁, hq, harr⟩
  obtain ⟨e, a₁, w₁, hq, harr⟩ := first b (.inScope c :: k) cs
  cases e with
  | normal => exact ⟨.normal, a₁, w₁, hq, .head step_scope (Steps.trans harr (.one step_inScope))⟩
  | exit id => exact ⟨.exit id, a₁, w₁, hq, fun k' hk => .head step_scope (harr k' (by simp [exitTo, hk]))⟩
  | goto l' =>
    obtain ⟨rfl, n, hJ'⟩ := hq
    obtain ⟨e₂, a₂, w₂, hq₂, harr₂⟩ := key n a₁ w₁ hJ'
    exact ⟨e₂, a₂, w₂, hq₂, .of_steps (.head step_scope (harr _ hg)) harr₂⟩
  | ret => exact ⟨_, a₁, w₁, hq, .of_steps (.one step_scope) harr⟩
  | panic ch => exact ⟨_, a₁, w₁, hq, .of_steps (.one step_scope) harr⟩
  | outgrown => exact ⟨_, a₁, w₁, hq, .of_steps (.one step_scope) harr⟩
/-- A label right behind some code, to which the run jumps back. -/
theorem wp_scope_goto {P : Program} {a : Act} {w : World} {Q : Exit → Act → World → Prop} {c0 r : Code} (l : Nat) (J : Nat → Act → World → Prop) (hf : findLabel (c0.seq ((Code.label l).seq r)) l = some (Code.skip.seq r))
    (first : c0.wp P (fun e a w => e = .normal ∧ ∃ n, J n a w) a w)
    (pass : ∀ n a w, J n a w → r.wp P (Exit.jump l (fun a' w' => ∃ m, m < n ∧ J m a' w') Q) a w) : (Code.scope (c0.seq ((Code.label l).seq r))).wp P Q a w := by
  refine scope_nat l J hf (wp_seq (Code.wp_mono ?_ first)) fun n a w hJ => wp_seq (wp_skip (pass n a w hJ))
  rintro e a w ⟨rfl, n, hJ⟩
  exact wp_seq (wp_label (Code.wp_mono (jump_mono fun _ _ ⟨m, _, h⟩ => ⟨m, h⟩) (pass n a w hJ)))
theorem cons_of_len {α : Type} {l : List α} {n : Nat} (h : l.length = n + 1) : ∃ x r, l = x :: r ∧ r.length = n := by
  cases l with
  | nil => cases h
  | cons x r => exact ⟨x, r, rfl, by simpa using h⟩
theorem list65 {us : List Value} (h : us.length = 65) : ∃ u5 u6 u7 u8 u9 u10 u11 u12 u13 u14 u15 u16 u17 u18 u19 u20 u21 u22 u23 u24 u25 u26 u27 u28 u29 u30 u31 u32 u33 u34 u35 u36 u37 u38 u39 u40 u41 u42 u43 u44 u45 u46 u47 u48 u49 u50 u51 u52 u53 u54 u55 u56 u57 u58 u59 u60 u61 u62 u63 u64 u65 u66 u67 u68 u69 : Value, us = u5 :: u6 :: u7 :: u8 :: u9 :: u10 :: u11 :: u12 :: u13 :: u14 :: u15 :: u16 :: u17 :: u18 :: u19 :: u20 :: u21 :: u22 :: u23 :: u24 :: u25 :: u26 :: u27 :: u28 :: u29 :: u30 :: u31 :: u32 :: u33 :: u34 :: u35 :: u36 :: u37 :: u38 :: u39 :: u40 :: u41 :: u42 :: u43 :: u44 :: u45 :: u46 :: u47 :: u48 :: u49 :: u50 :: u51 :: u52 :: u53 :: u54 :: u55 :: u56 :: u57 :: u58 :: u59 :: u60 :: u61 :: u62 :: u63 :: u64 :: u65 :: u66 :: u67 :: u68 :: u69 :: [] := by
  obtain ⟨u5, us5, rfl, h5⟩ := cons_of_len h
  obtain ⟨u6, us6, rfl, h6⟩ := cons_of_len h5
  obtain ⟨u7, us7, rfl, h7⟩ := cons_of_len h6
  obtain ⟨u8, us8, rfl, h8⟩ := cons_of_len h7
  obtain ⟨u9, us9, rfl, h9⟩ := cons_of_len h8
  obtain ⟨u10, us10, rfl, h10⟩ := cons_of_len h9
  obtain ⟨u11, us11, rfl, h11⟩ := cons_of_len h10
  obtain ⟨u12, us12, rfl, h12⟩ := cons_of_len h11
  obtain ⟨u13, us13, rfl, h13⟩ := cons_of_len h12
  obtain ⟨u14, us14, rfl, h14⟩ := cons_of_len h13
  obtain ⟨u15, us15, rfl, h15⟩ := cons_of_len h14
  obtain ⟨u16, us16, rfl, h16⟩ := cons_of_len h15
  obtain ⟨u17, us17, rfl, h17⟩ := cons_of_len h16
  obtain ⟨u18, us18, rfl, h18⟩ := cons_of_len h17
  obtain ⟨u19, us19, rfl, h19⟩ := cons_of_len h18
  obtain ⟨u20, us20, rfl, h20⟩ := cons_of_len h19
  obtain ⟨u21, us21, rfl, h21⟩ := cons_of_len h20
  obtain ⟨u22, us22, rfl, h22⟩ := cons_of_len h21
  obtain ⟨u23, us23, rfl, h23⟩ := cons_of_len h22
  obtain ⟨u24, us24, rfl, h24⟩ := cons_of_len h23
  obtain ⟨u25, us25, rfl, h25⟩ := cons_of_len h24
  obtain ⟨u26, us26, rfl, h26⟩ := cons_of_len h25
  obtain ⟨u27, us27, rfl, h27⟩ := cons_of_len h26
  obtain ⟨u28, us28, rfl, h28⟩ := cons_of_len h27
  obtain ⟨u29, us29, rfl, h29⟩ := cons_of_len h28
  obtain ⟨u30, us30, rfl, h30⟩ := cons_of_len h29
  obtain ⟨u31, us31, rfl, h31⟩ := cons_of_len h30
  obtain ⟨u32, us32, rfl, h32⟩ := cons_of_len h31
  obtain ⟨u33, us33, rfl, h33⟩ := cons_of_len h32
  obtain ⟨u34, us34, rfl, h34⟩ := cons_of_len h33
  obtain ⟨u35, us35, rfl, h35⟩ := cons_of_len h34
  obtain ⟨u36, us36, rfl, h36⟩ := cons_of_len h35
  obtain ⟨u37, us37, rfl, h37⟩ := cons_of_len h36
  obtain ⟨u38, us38, rfl, h38⟩ := cons_of_len h37
  obtain ⟨u39, us39, rfl, h39⟩ := cons_of_len h38
  obtain ⟨u40, us40, rfl, h40⟩ := cons_of_len h39
  obtain ⟨u41, us41, rfl, h41⟩ := cons_of_len h40
  obtain ⟨u42, us42, rfl, h42⟩ := cons_of_len h41
  obtain ⟨u43, us43, rfl, h43⟩ := cons_of_len h42
  obtain ⟨u44, us44, rfl, h44⟩ := cons_of_len h43
  obtain ⟨u45, us45, rfl, h45⟩ := cons_of_len h44
  obtain ⟨u46, us46, rfl, h46⟩ := cons_of_len h45
  obtain ⟨u47, us47, rfl, h47⟩ := cons_of_len h46
  obtain ⟨u48, us48, rfl, h48⟩ := cons_of_len h47
  obtain ⟨u49, us49, rfl, h49⟩ := cons_of_len h48
  obtain ⟨u50, us50, rfl, h50⟩ := cons_of_len h49
  obtain ⟨u51, us51, rfl, h51⟩ := cons_of_len h50
  obtain ⟨u52, us52, rfl, h52⟩ := cons_of_len h51
  obtain ⟨u53, us53, rfl, h53⟩ := cons_of_len h52
  obtain ⟨u54, us54, rfl, h54⟩ := cons_of_len h53
  obtain ⟨u55, us55, rfl, h55⟩ := cons_of_len h54
  obtain ⟨u56, us56, rfl, h56⟩ := cons_of_len h55
  obtain ⟨u57, us57, rfl, h57⟩ := cons_of_len h56
  obtain ⟨u58, us58, rfl, h58⟩ := cons_of_len h57
  obtain ⟨u59, us59, rfl, h59⟩ := cons_of_len h58
  obtain ⟨u60, us60, rfl, h60⟩ := cons_of_len h59
  obtain ⟨u61, us61, rfl, h61⟩ := cons_of_len h60
  obtain ⟨u62, us62, rfl, h62⟩ := cons_of_len h61
  obtain ⟨u63, us63, rfl, h63⟩ := cons_of_len h62
  obtain ⟨u64, us64, rfl, h64⟩ := cons_of_len h63
  obtain ⟨u65, us65, rfl, h65⟩ := cons_of_len h64
  obtain ⟨u66, us66, rfl, h66⟩ := cons_of_len h65
  obtain ⟨u67, us67, rfl, h67⟩ := cons_of_len h66
  obtain ⟨u68, us68, rfl, h68⟩ := cons_of_len h67
  obtain ⟨u69, us69, rfl, h69⟩ := cons_of_len h68
  obtain rfl := List.eq_nil_of_length_eq_zero h69
  exact ⟨u5, u6, u7, u8, u9, u10, u11, u12, u13, u14, u15, u16, u17, u18, u19, u20, u21, u22, u23, u24, u25, u26, u27, u28, u29, u30, u31, u32, u33, u34, u35, u36, u37, u38, u39, u40, u41, u42, u43, u44, u45, u46, u47, u48, u49, u50, u51, u52, u53, u54, u55, u56, u57, u58, u59, u60, u61, u62, u63, u64, u65, u66, u67, u68, u69, rfl⟩
theorem crashF_nil (l : Files) (ks : List Int) : crashF l [] ks = l := by cases ks <;> rfl
theorem crashF_take : ∀ (cs : List Ch) (ks : List Int) (l : Files) (m : Nat), min ks.length cs.length ≤ m → crashF l (cs.take m) (ks.take m) = crashF l cs ks
  | [], ks, l, m, _ => by simp [crashF_nil]
  | c :: cs, [], l, m, _ => by simp [crashF]
  | c :: cs, k :: ks, l, 0, h => by simp at h
  | c :: cs, k :: ks, l, m + 1, h => by
    simp only [List.take_succ_cons, crashF]
    exact crashF_take cs ks _ m (by simp at h ⊢; omega)
def crashStep (l : Files) (c : Ch) (k : Int) : Files := if k = 1 then c.act l else if k = 2 then c.half.act l else l
theorem crashF_succ : ∀ (cs : List Ch) (ks : List Int) (l : Files) (i : Nat) (hc : i < cs.length) (hk : i < ks.length), crashF l (cs.take (i + 1)) (ks.take (i + 1)) = crashStep (crashF l (cs.take i) (ks.take i)) cs[i] ks[i]
  | [], ks, l, i, hc, hk => by simp at hc
  | c :: cs, [], l, i, hc, hk => by simp at hk
  | c :: cs, k :: ks, l, 0, hc, hk => by simp [crashF, crashF_nil, crashStep]
  | c :: cs, k :: ks, l, i + 1, hc, hk => by
    have := crashF_succ cs ks (if k = 1 then c.act l else if k = 2 then c.half.act l else l) i (by simpa using hc) (by simpa using hk)
    simp only [List.take_succ_cons, crashF, List.getElem_cons_succ] at this ⊢
    exact this
theorem Rd.spot {w : World} {A : Option Addr} {xs : List Value} (h : Rd w A xs) (h0 : 0 < xs.length) : ∃ b off, A = some ⟨b, off, none⟩ ∧ ∀ j u, xs[j]? = some u → w.cell? ⟨b, off + j, none⟩ = some u := by
  obtain ⟨ad, rfl, hc⟩ := h 0 _ (List.getElem?_eq_getElem h0)
  have hs : ad.spot = none := by
    unfold Addr.add at hc
    simp only [if_pos] at hc
    unfold World.cell? at hc
    cases hp : ad.spot with
    | none => rfl
    | some s =>
      rw [hp] at hc
      split at hc <;> simp at hc
  obtain ⟨b, off, sp⟩ := ad
  simp only at hs
  subst hs
  refine ⟨b, off, rfl, fun j u hu => ?_⟩
  obtain ⟨ad', e, hc'⟩ := h j u hu
  injection e with e
  subst e
  rw [add_plain'] at hc'
  exact hc'
section
variable {X : Nat → Prop} {w w' : World} {p bn bk c : Nat} {A : Option Addr} {s : V}
/-- How far a crash has come. -/
def V.at_ (s : V) (ks : List Int) (i : Nat) : V := { s with kept := crashF s.kept (s.since.take i) (ks.take i) }

set_option maxHeartbeats 8000000 in
/-- (*Vfs).Crash -/
theorem crash_any (h : At w X p s) (hs : Sm s) (B : Option Addr) (n cc : Nat) (ks : List Int) (hn : Hid (ks.length = n)) (hr : Rd w B (ks.map iv)) (hB : 0 < n → ∀ ad, B = some ad → ¬ X ad.block) (hl : n ≤ 9223372036854775807) :
    Calls Try.prog 20 #[.pointer (some ⟨p, 0, none⟩), .slice B n cc] w fun e w' => e = .returned (.tuple #[]) ∧ ∃ X', At w' X' p (s.crash ks) ∧ Mv w X w' X' := by
  have h' := h
  obtain ⟨hok, bn, bk, A, c, h⟩ := h
  have hok2 := ok_crash hok ks
  have hsl : s.since.length ≤ 1000000 := by have := hok.keptL; have := hs.ops; omega
  have hkl : s.kept.length + s.since.length ≤ 1000000 := Nat.le_trans hok.keptL hs.ops
  have hnn := hn.out
  go_enter Try.func20, Try.ntmps20
  refine wp_scope_goto 0 (fun k a' W => ∃ (i : Nat) (us : List Value), us.length = 65 ∧ a' = { tmps := (Value.pointer (some ⟨p, 0, none⟩) :: .slice B n cc :: undef :: undef :: .int .i64 (i : Nat) :: us).toArray, defers := [] } ∧ i ≤ min n s.since.length ∧ k + i = n ∧ Mem W X p bn bk A c (s.at_ ks i) ∧ Mv w X W X) rfl ?_ ?_
  · go_wp2
    refine ⟨n, 0, List.replicate 65 undef, rfl, ⟨rfl, rfl⟩, Nat.zero_le _, rfl, ?_, Mv.rfl' _ _⟩
    have : s.at_ ks 0 = s := by simp [V.at_, crashF_nil]
    rw [this]
    exact h
  · rintro k a' W ⟨i, us, hus, rfl, hi, hki, hm, hM⟩
    obtain ⟨u5, u6, u7, u8, u9, u10, u11, u12, u13, u14, u15, u16, u17, u18, u19, u20, u21, u22, u23, u24, u25, u26, u27, u28, u29, u30, u31, u32, u33, u34, u35, u36, u37, u38, u39, u40, u41, u42, u43, u44, u45, u46, u47, u48, u49, u50, u51, u52, u53, u54, u55, u56, u57, u58, u59, u60, u61, u62, u63, u64, u65, u66, u67, u68, u69, rfl⟩ := list65 hus
    clear hus
    obtain ⟨c0, c1, c2, c3, c4, c5, c6⟩ := hm.cells
    have hsl2 : (s.at_ ks i).since.length = s.since.length := rfl
    rw [hsl2] at c2
    by_cases hlt : i < min n s.since.length
    · have hlt' : ((i : Nat) : Int) < min (n : Int) (s.since.length : Int) := by omega
      have hil : i < s.since.length := by omega
      have hik : i < ks.length := by omega
      have hSA : SinceAt W X A c s.since := hm.since
      obtain ⟨g, v, rfl, hct, y0, y1, y2⟩ := hSA.at_ (i := i) hil
      have hcb := hok.sinceB s.since[i] (List.getElem_mem hil)
      generalize hch : s.since[i] = ch at *
      obtain ⟨A0, n0, k0, rfl, hlen, hle, hcm, hrd⟩ := id hct
      have i0 : (0 : Int) ≤ (i : Int) := by omega
      have i1 : (i : Int) < (s.since.length : Int) := by omega
      have i2 : (i : Int) < (n : Int) := by omega
      obtain ⟨kb, ko, rfl, hx⟩ := (hM.tr.rd hr (hB (by omega))).spot (by simp; omega)
      have hx : W.cell? ⟨kb, ko + i, none⟩ = some (.int .i64 ks[i]) := hx i _ (by rw [List.getElem?_map, List.getElem?_eq_getElem hik]; rfl)
      generalize hkk : ks[i] = kk at *
      have hx2 := (Gr.alloc1 W (.cells #[Value.string ⟨ch.name.toArray⟩, .slice A0 n0 k0, .bool ch.gone] 63)).cell hx
      have hkb : kb ≠ W.heap.size := Nat.ne_of_lt (World.block_lt_of_cell? W _ hx)
      clear c0 c3 c4 c5 c6
      have hkpl : (crashF s.kept (s.since.take i) (ks.take i)).length ≤ 1000000 := by
        have := (crashF_ok (s.since.take i) (ks.take i) s.kept hok.kept hok.keptB (fun c hc => hok.sinceB c (List.mem_of_mem_take hc))).2.2
        rw [List.length_take] at this
        omega
      have hst0 : s.at_ ks (i + 1) = { s.at_ ks i with kept := crashStep (crashF s.kept (s.since.take i) (ks.take i)) ch kk } := by
        unfold V.at_
        rw [crashF_succ _ _ _ _ hil hik, hch, hkk]
      by_cases hk1 : kk = 1
      · subst hk1
        have hst : ({ s.at_ ks i with kept := ch.act (crashF s.kept (s.since.take i) (ks.take i)) } : V) = s.at_ ks (i + 1) := by rw [hst0]; simp [crashStep]
        go_wp2_with fail
        have hrow := Row.new W 63 [encStr ch.name, .slice A0 n0 k0, .bool ch.gone]
        have hgr := Gr.alloc1 W (.cells [encStr ch.name, .slice A0 n0 k0, .bool ch.gone].toArray 63)
        have hv1 : Cont W X (.slice A0 n0 k0) ch.b := hct
        have hm1 := (hm.gr hgr).gr (Gr.draw _)
        have hM1 := hM.trans (Mv.of_gr (hgr.trans' (Gr.draw _)) X)
        have hv1 := hv1.tr (Y := fun _ => False) (X' := X) (Tr.of_gr (hgr.trans' (Gr.draw _))) (fun _ _ _ hf => hf.elim) (fun _ h => h)
        have hrow := hrow.drew
        clear hgr hx2
        generalize hgB : W.heap.size = gB at *
        generalize W.alloc (.cells #[.string ⟨ch.name.toArray⟩, .slice A0 n0 k0, .bool ch.gone] 63) = w1 at *
        have HD := Lib.hid (do_any (ch := ch) (l := crashF s.kept (s.since.take i) (ks.take i)) hm1.kept hv1 hcb.1 hkpl)
        unfold chV at HD
        have q1 := Lib.hid hm1.cells.2.1
        have qr := Lib.hid (And.intro (hrow.cell 0) (And.intro (hrow.cell 1) (hrow.cell 2)))
        simp only [List.getElem?_cons_zero, List.getElem?_cons_succ] at qr
        refine Vc.wp_region_split ⟨fun W W' => W = W', fun _ W W' => W = W', fun _ W => W = w1.drew, []⟩ 5 [] (by kernel_rfl) (by kernel_rfl) (by kernel_rfl) (by decide) (by simp) (by simp) (by simp) (fun _ _ h => h ▸ Nat.le_refl _) (fun _ _ _ h => h ▸ Nat.le_refl _) (fun _ _ _ h h' => h ▸ h') rfl ?_
        repeat
          refine Vc.Walk.pure (v := ?_) (fun _ => rfl) rfl (by first | exact Vc.GuardYes.no rfl | exact Vc.GuardYes.yes rfl rfl) rfl rfl ?_ ?_
          rotate_left
          · intro _ W hI
            (obtain rfl := hI.g; clear hI; have q0 := q1.out; have q2 := qr.out.1; have q3 := qr.out.2.1; have q4 := qr.out.2.2)
            go_simp
            exact rfl
        rintro V rfl
        simp only [List.reverse_cons, List.reverse_nil, List.nil_append, List.cons_append, Vc.finish, Act.put, List.setIfInBounds_toArray, List.set_cons_zero, List.set_cons_succ]
        rintro _
        simp only [List.drop_succ_cons, List.drop_zero]
        go_wp2_with (go_at_call 35; (with_reducible refine HD.out.mono ?_); rintro e w2 ⟨rfl, hf2, hg2⟩)
        have hend := hm1.kept_turned hf2 hg2
        go_step3
        rw [show ((i : Int) + 1) = ((i + 1 : Nat) : Int) by omega]
        rw [hst] at hend
        exact ⟨rfl, k - 1, by omega, i + 1, _ :: _ :: _ :: _ :: _ :: _ :: _ :: _ :: _ :: _ :: _ :: _ :: _ :: _ :: _ :: _ :: _ :: _ :: _ :: _ :: _ :: _ :: _ :: _ :: _ :: _ :: _ :: _ :: _ :: _ :: _ :: _ :: _ :: _ :: _ :: _ :: _ :: _ :: _ :: _ :: _ :: _ :: _ :: _ :: _ :: _ :: _ :: _ :: _ :: _ :: _ :: _ :: _ :: _ :: _ :: _ :: _ :: _ :: _ :: _ :: _ :: _ :: _ :: _ :: _ :: [], rfl, rfl, by omega, by omega, hend, hM1.trans ⟨Tr.of_grown hg2 (fun g e => by injection e with e; exact e ▸ h.xk), fun _ h => h, fun _ h => .inl h⟩⟩
      · have hk1' : (kk == 1) = false := by simpa using hk1
        by_cases hk2 : kk = 2
        · subst hk2
          have hst : ({ s.at_ ks i with kept := ch.half.act (crashF s.kept (s.since.take i) (ks.take i)) } : V) = s.at_ ks (i + 1) := by rw [hst0]; simp [crashStep]
          have hn0 : n0 ≤ 1048576 := by have := hcb.2; unfold mostRoom at this; omega
          have hq : wrap64 ((n0 : Int) / 2) = (n0 : Int) / 2 := by unfold wrap64; omega
          have hq1 : (0 : Int) ≤ (n0 : Int) / 2 := by omega
          have hq2 : (n0 : Int) / 2 ≤ (k0 : Int) := by omega
          go_wp2_with fail
          have hrow := Row.new W 63 [encStr ch.name, .slice A0 (n0 / 2) k0, .bool ch.gone]
          have hgr := Gr.alloc1 W (.cells [encStr ch.name, .slice A0 (n0 / 2) k0, .bool ch.gone].toArray 63)
          have hv1 : Cont W X (.slice A0 (n0 / 2) k0) ch.half.b := hct.half
          have hm1 := (hm.gr hgr).gr (Gr.draw _)
          have hM1 := hM.trans (Mv.of_gr (hgr.trans' (Gr.draw _)) X)
          have hv1 := hv1.tr (Y := fun _ => False) (X' := X) (Tr.of_gr (hgr.trans' (Gr.draw _))) (fun _ _ _ hf => hf.elim) (fun _ h => h)
          have hrow := hrow.drew
          clear hgr hx2
          generalize hgB : W.heap.size = gB at *
          generalize W.alloc (.cells #[.string ⟨ch.name.toArray⟩, .slice A0 (n0 / 2) k0, .bool ch.gone] 63) = w1 at *
          have HD := Lib.hid (do_any (ch := ch.half) (l := crashF s.kept (s.since.take i) (ks.take i)) hm1.kept hv1 hcb.1 hkpl)
          unfold chV at HD
          rw [show ch.half.name = ch.name from rfl, show ch.half.gone = ch.gone from rfl] at HD
          have q1 := Lib.hid hm1.cells.2.1
          have qr := Lib.hid (And.intro (hrow.cell 0) (And.intro (hrow.cell 1) (hrow.cell 2)))
          simp only [List.getElem?_cons_zero, List.getElem?_cons_succ] at qr
          refine Vc.wp_region_split ⟨fun W W' => W = W', fun _ W W' => W = W', fun _ W => W = w1.drew, []⟩ 5 [] (by kernel_rfl) (by kernel_rfl) (by kernel_rfl) (by decide) (by simp) (by simp) (by simp) (fun _ _ h => h ▸ Nat.le_refl _) (fun _ _ _ h => h ▸ Nat.le_refl _) (fun _ _ _ h h' => h ▸ h') rfl ?_
          repeat
            refine Vc.Walk.pure (v := ?_) (fun _ => rfl) rfl (by first | exact Vc.GuardYes.no rfl | exact Vc.GuardYes.yes rfl rfl) rfl rfl ?_ ?_
            rotate_left
            · intro _ W hI
              (obtain rfl := hI.g; clear hI; have q0 := q1.out; have q2 := qr.out.1; have q3 := qr.out.2.1; have q4 := qr.out.2.2)
              go_simp
              exact rfl
          rintro V rfl
          simp only [List.reverse_cons, List.reverse_nil, List.nil_append, List.cons_append, Vc.finish, Act.put, List.setIfInBounds_toArray, List.set_cons_zero, List.set_cons_succ]
          rintro _
          simp only [List.drop_succ_cons, List.drop_zero]
          go_wp2_with (go_at_call 35; (with_reducible refine HD.out.mono ?_); rintro e w2 ⟨rfl, hf2, hg2⟩)
          have hend := hm1.kept_turned hf2 hg2
          go_step3
          rw [show ((i : Int) + 1) = ((i + 1 : Nat) : Int) by omega]
          rw [hst] at hend
          exact ⟨rfl, k - 1, by omega, i + 1, _ :: _ :: _ :: _ :: _ :: _ :: _ :: _ :: _ :: _ :: _ :: _ :: _ :: _ :: _ :: _ :: _ :: _ :: _ :: _ :: _ :: _ :: _ :: _ :: _ :: _ :: _ :: _ :: _ :: _ :: _ :: _ :: _ :: _ :: _ :: _ :: _ :: _ :: _ :: _ :: _ :: _ :: _ :: _ :: _ :: _ :: _ :: _ :: _ :: _ :: _ :: _ :: _ :: _ :: _ :: _ :: _ :: _ :: _ :: _ :: _ :: _ :: _ :: _ :: _ :: [], rfl, rfl, by omega, by omega, hend, hM1.trans ⟨Tr.of_grown hg2 (fun g e => by injection e with e; exact e ▸ h.xk), fun _ h => h, fun _ h => .inl h⟩⟩
        · have hst : s.at_ ks i = s.at_ ks (i + 1) := by rw [hst0]; simp [crashStep, hk1, hk2]; rfl
          have hk2' : (kk == 2) = false := by simpa using hk2
          go_wp2_with fail
          have hgr := Gr.alloc1 W (.cells [encStr ch.name, .slice A0 n0 k0, .bool ch.gone].toArray 63)
          have hend := hm.gr hgr
          go_step3
          rw [show ((i : Int) + 1) = ((i + 1 : Nat) : Int) by omega]
          rw [hst] at hend
          exact ⟨rfl, k - 1, by omega, i + 1, _ :: _ :: _ :: _ :: _ :: _ :: _ :: _ :: _ :: _ :: _ :: _ :: _ :: _ :: _ :: _ :: _ :: _ :: _ :: _ :: _ :: _ :: _ :: _ :: _ :: _ :: _ :: _ :: _ :: _ :: _ :: _ :: _ :: _ :: _ :: _ :: _ :: _ :: _ :: _ :: _ :: _ :: _ :: _ :: _ :: _ :: _ :: _ :: _ :: _ :: _ :: _ :: _ :: _ :: _ :: _ :: _ :: _ :: _ :: _ :: _ :: _ :: _ :: _ :: _ :: [], rfl, rfl, by omega, by omega, hend, hM.trans (Mv.of_gr hgr X)⟩
    · have hlt' : ¬ ((i : Nat) : Int) < min (n : Int) (s.since.length : Int) := by omega
      have hfin : crashF s.kept (s.since.take i) (ks.take i) = crashF s.kept s.since ks := crashF_take _ _ _ _ (by omega)
      have hkept : FilesAt W X bk (crashF s.kept s.since ks) := by have := hm.kept; simp only [V.at_, hfin] at this; exact this
      have HC := Lib.hid (cloneM_any W hkept)
      clear c0 c3 c4 c5 c6
      go_wp2_with (go_at_call 34; (with_reducible refine HC.out.mono ?_); rintro e w2 ⟨rfl, hf2, hg2⟩
                   have hmg := hm.gr hg2
                   obtain ⟨r0, r1, r2, r3, r4, r5, r6⟩ := hmg.cells
                   have z0 := hmg.frozen 0
                   have z2 := hmg.frozen 2
                   have z4 := hmg.frozen 4
                   have z6 := hmg.frozen 6)
      simp only [Exit.jump]
      obtain ⟨hm2, hf3, hM2⟩ := hm.cloned hg2 hf2
      have hm3 := hm2.set_now hf3 (fun e => absurd hm.kept.lt (by omega)) (.inr rfl)
      have hm4 := hm3.set_since (SinceAt.nil _ _) (fun g hg => by cases hg)
      have hg4 := only_trans (only_set ((w2.setCell ⟨p, 0, none⟩ (.map (some W.heap.size))).setCell ⟨p, 2, none⟩ (.slice none 0 0)) p 4 (.int .i64 0)) (only_set _ p 6 (.bool false))
      have hm5 := hm4.own_cells (s' := s.crash ks) (by
        have hr := (hm4.row.set 4 (.int .i64 0)).set 6 (.bool false)
        simpa [vfsCells, V.crash, V.at_] using hr) hg4 rfl hfin.symm rfl
      exact bodyPost_end (results_none rfl _ _ _) rfl ⟨rfl, _, ⟨hok2, _, _, _, _, hm5⟩, ((((hM.trans hM2).own_set (.inl h.xp)).own_set (.inl h.xp)).own_set (.inl h.xp)).own_set (.inl h.xp)⟩
end
end Go.Proofs.Ytopellbmmkflgaa
