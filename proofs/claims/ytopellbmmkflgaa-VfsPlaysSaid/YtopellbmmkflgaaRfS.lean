/- Package cadencelaw15: both side by side: Same. -/
import Derived.Test.YtopellbmmkflgaaRfC6
import Derived.Test.YtopellbmmkflgaaVfK
set_option linter.unusedVariables false
set_option linter.unusedSimpArgs false
namespace Go.Proofs.Ytopellbmmkflgaa
open Go.RowKit Go.Maps Go.Sort
attribute [local go_sem] Vc.known_tmp Vc.known_const Vc.known_func Vc.known_global Vc.lk Vc.okUpon Vc.Fact.holds
structure SR (w0 W : World) (X R : Nat → Prop) (p q : Nat) (a b : V) : Prop where
  v : Sv w0 W X p a
  x : RAt W R q b
  hi : ∀ i, R i → w0.heap.size ≤ i
  ap : ∀ i, X i → R i → False
section
variable {w0 W W' : World} {X X' R R' : Nat → Prop} {p q : Nat} {a a' b b' : V}
theorem SR.stepV (h : SR w0 W X R p q a b) (ha : At W' X' p a') (hm : Mv W X W' X') : SR w0 W' X' R p q a' b :=
  ⟨h.v.step ha hm, h.x.frame hm.tr h.ap, h.hi, fun i hi hr => by
    rcases hm.new i hi with h1 | h1
    · exact h.ap i h1 hr
    · have := h.x.lt i hr
      omega⟩
theorem SR.stepX (h : SR w0 W X R p q a b) (ha : RAt W' R' q b') (hm : Mv W R W' R') : SR w0 W' X R' p q a b' :=
  ⟨⟨h.v.at_.frame hm.tr (fun i hr hx => h.ap i hx hr), h.v.gr.trans (hm.tr.below h.v.gr.size h.hi), h.v.hi⟩, ha, fun i hi => by
    rcases hm.new i hi with h1 | h1
    · exact h.hi i h1
    · exact Nat.le_trans h.v.gr.size h1, fun i hx hi => by
    rcases hm.new i hi with h1 | h1
    · exact h.ap i hx h1
    · have := h.v.at_.lt i hx
      omega⟩
theorem SR.more (h : SR w0 W X R p q a b) (hg : Gr W W') : SR w0 W' X R p q a b := ⟨h.v.more hg, h.x.gr hg, h.hi, h.ap⟩
end
theorem str_at {W : World} {A : Option Addr} {b : Str} {n : Nat} (c : Nat) (hn : b.length = n) (h : Rd W A (b.map bv)) : (convert 31 9 (.slice A n c)).run Try.prog W = .ok (encStr b) W :=
  run_str h _ _ _ n c hn.symm Try.underlying31 Try.underlying5 Try.underlying9
theorem get_le (s : V) (hok : s.Ok) (x : Str) : (s.read x).1.length ≤ 1048576 := by
  unfold V.read
  split
  · simp
  · exact get_room hok x
theorem enc_one (l : List Str) : ∀ u ∈ l.map encStr, u.oneCell' = true := by
  intro u hu
  obtain ⟨y, _, rfl⟩ := List.mem_map.1 hu
  rfl
section
variable {X R : Nat → Prop} {w w' : World} {p q : Nat} {s : V}
set_option maxRecDepth 20000 in
set_option maxHeartbeats 4000000 in
theorem same_any (h : At w X p s) (hx : RAt w R q s) (hs : Sm s) :
    Calls Try.prog 27 #[.pointer (some ⟨p, 0, none⟩), .pointer (some ⟨q, 0, none⟩)] w fun e w' => e = .returned (.bool true) ∧ Gr w w' := by
  have hok := h.1
  have hnl := hok.nowL
  have hso := hs.ops
  have hnames : ∀ x ∈ s.now.map (·.1), x.length ≤ 20 := fun x hx => by
    obtain ⟨y, hy, rfl⟩ := List.mem_map.1 hx
    exact (hok.nowB y hy).1
  obtain ⟨L, hL⟩ : ∃ L, s.now.map (·.1) = L := ⟨_, rfl⟩
  have HN := Lib.hid (names_any h hs)
  have HM := Lib.hid (fun W (hW : Gr w W) => rnames_any (hx.gr hW) hs)
  rw [hL] at HN HM hnames
  obtain ⟨m, hm⟩ : ∃ m, s.now.length = m := ⟨_, rfl⟩
  have hLm : L.length = m := by rw [← hL, List.length_map, hm]
  rw [hm] at HN HM hnl
  replace hL := Lib.hid hL
  replace hm := Lib.hid hm
  replace hLm := Lib.hid hLm
  have HD := Lib.hid (fun W (hW : Gr w W) => dead_any (h.gr hW))
  have HO := Lib.hid (fun W (hW : Gr w W) => ops_any (h.gr hW))
  have HR := Lib.hid (fun W (hW : Gr w W) => room_any (h.gr hW))
  have HU := Lib.hid (fun W (hW : Gr w W) => used_any (h.gr hW) hs)
  have HV := Lib.hid (fun W (hW : Gr w W) => rused2_any (hx.gr hW) hs)
  have HX := Lib.hid (fun W (hW : Gr w W) x (hn : x.length ≤ maxLen) => read_any (h.gr hW) x hn)
  have HY := Lib.hid (fun W (hW : Gr w W) x => rread_any (hx.gr hW) hs x)
  have Hle := Lib.hid (get_le s hok)
  obtain ⟨y0, y1, y2, y3, y4, y5⟩ := (show ∃ A1 c1 A2 c2, RMem w R q A1 c1 A2 c2 s from hx.2.2).choose_spec.choose_spec.choose_spec.choose_spec.cells
  have z := Lib.hid (And.intro y2 (And.intro y4 y5))
  obtain ⟨i0, hi, hz0, hz1, hz2⟩ := info_parts info_str
  clear y0 y1 y2 y3 y4 y5 hok
  go_enter Try.func27, Try.ntmps27
  go_wp2_with (first
    | (go_at_call 17; (with_reducible refine HN.out.mono ?_); rintro e w1 ⟨A3, n3, c3, rfl, hn3, ho3, hg3⟩; have hn3 := hn3.symm; subst hn3)
    | (go_at_call 42; (with_reducible refine (HM.out _ hg3).mono ?_); rintro e w2 ⟨A4, n4, c4, rfl, hn4, ho4, hg4⟩; have hn4 := hn4.symm; subst hn4))
  have hg2 := hg3.trans' hg4
  have hr3 := ho3.rd.gr hg4
  have hr4 := ho4.rd
  have hle4 := ho4.le
  have hle3 := ho3.le
  clear HN HM hg3 hg4 ho3 ho4
  generalize hdd : s.dead = d at *
  generalize s.ops = o at *
  generalize s.room = ro at *
  generalize s.now.used = us at *
  refine Vc.wp_region_facts ⟨Gr, fun _ => Gr, fun _ W => Gr w2 W, []⟩ (by kernel_rfl) (by kernel_rfl) (fun _ _ _ h h' => h'.trans' h) (Gr.draw _) ?_
  have e1 : (d != d) = false := by cases d <;> rfl
  have e2 : ((o : Int) != (o : Int)) = false := by simp
  have e3 : ((us : Int) != (us : Int)) = false := by simp
  have e4 : ((ro : Int) != (ro : Int)) = false := by simp
  have e5 : ((m : Int) != (m : Int)) = false := by simp
  repeat
    refine Vc.Walk.pure (v := ?_) (fun _ => Gr.rfl' _) rfl (by first | exact Vc.GuardYes.no rfl | exact Vc.GuardYes.yes rfl rfl) rfl rfl ?_ ?_
    rotate_left
    · intro _ W hI
      (clear hI)
      go_simp
      exact rfl
  refine Vc.Walk.call (.is (.bool d)) trivial (.no rfl) rfl rfl ?_ ?_
  · intro k W hI
    have hg := hI.g
    clear hI
    go_simp
    refine (HD.out W (hg2.trans' hg)).mono ?_
    rintro e W' ⟨rfl, rfl⟩
    exact ⟨_, rfl, rfl, Gr.rfl' _⟩
  repeat
    refine Vc.Walk.pure (v := ?_) (fun _ => Gr.rfl' _) rfl (by first | exact Vc.GuardYes.no rfl | exact Vc.GuardYes.yes rfl rfl) rfl rfl ?_ ?_
    rotate_left
    · intro _ W hI
      (have q := hg2.trans' hI.g; clear hI; have q2 := q.cell z.out.2.1; clear q)
      go_simp
      exact rfl
  refine Vc.Walk.call (.is (.int .i64 o)) trivial (.yes rfl rfl) rfl rfl ?_ ?_
  · intro k W hI
    have hg := hI.g
    clear hI
    go_simp
    refine (HO.out W (hg2.trans' hg)).mono ?_
    rintro e W' ⟨rfl, rfl⟩
    exact ⟨_, rfl, rfl, Gr.rfl' _⟩
  repeat
    refine Vc.Walk.pure (v := ?_) (fun _ => Gr.rfl' _) rfl (by first | exact Vc.GuardYes.no rfl | exact Vc.GuardYes.yes rfl rfl) rfl rfl ?_ ?_
    rotate_left
    · intro _ W hI
      (have q := hg2.trans' hI.g; clear hI; have q2 := q.cell z.out.2.2; clear q)
      go_simp
      exact rfl
  refine Vc.Walk.call (.is (.int .i64 us)) trivial (.yes rfl rfl) rfl rfl ?_ ?_
  · intro k W hI
    have hg := hI.g
    clear hI
    go_simp
    refine (HU.out W (hg2.trans' hg)).mono ?_
    rintro e W' ⟨rfl, hg'⟩
    exact ⟨_, rfl, rfl, hg'⟩
  repeat
    refine Vc.Walk.pure (v := ?_) (fun _ => Gr.rfl' _) rfl (by first | exact Vc.GuardYes.no rfl | exact Vc.GuardYes.yes rfl rfl) rfl rfl ?_ ?_
    rotate_left
    · intro _ W hI
      (clear hI)
      go_simp
      exact rfl
  refine Vc.Walk.call (.is (.int .i64 us)) trivial (.yes rfl rfl) rfl rfl ?_ ?_
  · intro k W hI
    have hg := hI.g
    clear hI
    go_simp
    refine (HV.out W (hg2.trans' hg)).mono ?_
    rintro e W' ⟨rfl, hg'⟩
    exact ⟨_, rfl, rfl, hg'⟩
  repeat
    refine Vc.Walk.pure (v := ?_) (fun _ => Gr.rfl' _) rfl (by first | exact Vc.GuardYes.no rfl | exact Vc.GuardYes.yes rfl rfl) rfl rfl ?_ ?_
    rotate_left
    · intro _ W hI
      (clear hI)
      go_simp
      exact rfl
  refine Vc.Walk.call (.is (.int .i64 ro)) trivial (.yes rfl rfl) rfl rfl ?_ ?_
  · intro k W hI
    have hg := hI.g
    clear hI
    go_simp
    refine (HR.out W (hg2.trans' hg)).mono ?_
    rintro e W' ⟨rfl, rfl⟩
    exact ⟨_, rfl, rfl, Gr.rfl' _⟩
  repeat
    refine Vc.Walk.pure (v := ?_) (fun _ => Gr.rfl' _) rfl (by first | exact Vc.GuardYes.no rfl | exact Vc.GuardYes.yes rfl rfl) rfl rfl ?_ ?_
    rotate_left
    · intro _ W hI
      (have q := hg2.trans' hI.g; clear hI; have q2 := q.cell z.out.1; clear q)
      go_simp
      exact rfl
  intro W hW
  have hW : Gr w2 W := hW
  simp only [List.reverse_cons, List.reverse_nil, List.nil_append, List.cons_append, Vc.finish, Act.put, List.setIfInBounds_toArray, List.set_cons_zero, List.set_cons_succ]
  have hr4 := hr4.gr hW
  have hr3 := hr3.gr hW
  have hgW := hg2.trans' hW
  have hml : m ≤ 1000000 := Nat.le_trans hnl hso
  have hLc : (L.map encStr).length = m * 1 := by rw [List.length_map, hLm.out, Nat.mul_one]
  replace hLc := Lib.hid hLc
  clear HD HO HR HU HV z e1 e2 e3 e4 e5 hW hg2
  go_wp2_with (first
    | (at_builtin; with_reducible refine wpList_append (o := ⟨some 60, _, _, _, _, _⟩) _ rfl _ _ 30 rfl W.heap.size 9 i0 _ 1 16 Try.underlying30 hi hz0 hz1 hz2 rfl (by omega) _ 0 0 [] rfl (Own.empty W 9 1) A4 m _ (L.map encStr) rfl hLc.out (hr4.gr (Gr.alloc1 _ _)) (enc_one _) (by omega) (by unfold maxLen; omega) (by simp) ?_
       intro A5 c5 w5 ho5 hk5
       have hg5 : Gr W w5 := Gr.grownBk (Gr.alloc1 W _) hk5.grown (fun g hg => by injection hg with hg; exact Nat.le_of_eq hg)
       rw [Nat.zero_add, List.nil_append] at ho5
       have ho5 := Lib.hid ho5
       clear hk5)
    | (at_builtin; with_reducible refine wpList_append (o := ⟨some 62, _, _, _, _, _⟩) _ rfl _ _ 30 rfl W.heap.size 9 i0 _ 1 16 Try.underlying30 hi hz0 hz1 hz2 rfl (by omega) A5 m c5 _ rfl (ho5.out.gr (Gr.alloc1 _ _)) _ 2 2 [encStr [], encStr [110, 111, 110, 101]] rfl rfl (Rd.new _ [encStr [], encStr [110, 111, 110, 101]] _) (by simp [Value.oneCell']) (by omega) (by unfold maxLen; omega) (hg5.trans' (Gr.alloc1 _ _)).size ?_
       intro A6 c6 w6 ho6 hk6
       have hg6 : Gr W w6 := Gr.grownBk (hg5.trans' (Gr.alloc1 _ _)) hk6.grown (fun g hg => (ho5.out.blk g hg).1)
       rw [show L.map encStr ++ [encStr [], encStr [110, 111, 110, 101]] = (L ++ [[], [110, 111, 110, 101]]).map encStr by simp] at ho6
       have ho6 := Lib.hid ho6
       clear hk6))
  obtain ⟨M, hM⟩ : ∃ M, L ++ [[], [110, 111, 110, 101]] = M := ⟨_, rfl⟩
  rw [hM] at ho6
  have hMl : M.length = m + 2 := by rw [← hM, List.length_append, hLm.out]; rfl
  have hMx : ∀ x ∈ M, x.length ≤ 20 := fun x hx => by
    rw [← hM] at hx
    rcases List.mem_append.1 hx with hx | hx
    · exact hnames x hx
    · simp only [List.mem_cons, List.not_mem_nil, or_false] at hx
      rcases hx with rfl | rfl <;> decide
  have hMj : ∀ j (h : j < m) (h' : j < M.length), M[j] = L[j]'(by rw [hLm.out]; exact h) := fun j h h' => by
    subst hM
    rw [List.getElem_append_left (by rw [hLm.out]; exact h)]
  replace hM := Lib.hid hM
  replace hMl := Lib.hid hMl
  replace hMj := Lib.hid hMj
  clear ho5 hg5 hnames hLc
  obtain ⟨gA, rfl, hcA⟩ := own_head ho6.out (by rw [List.length_map, hMl.out]; omega)
  go_loopw [8] (fun i wr => ∃ j : Nat, j ≤ m + 2 ∧ i = .int .i64 j ∧ Gr w6 wr) (fun i _ => m + 2 - (intOf i).toNat)
  case atStart => exact ⟨0, by omega, rfl, Gr.rfl' _⟩
  case round =>
    obtain ⟨j, hj, rfl, hb⟩ := hrel
    by_cases hlt : j < m + 2
    · have hjM : j < M.length := by rw [hMl.out]; exact hlt
      have hx := hb.cell (hcA j (encStr M[j]) (by rw [List.getElem?_map, List.getElem?_eq_getElem hjM]; rfl))
      have hxl := hMx M[j] (List.getElem_mem hjM)
      have HXx := Lib.hid (fun W hW (hn : M[j].length ≤ maxLen) => HX.out W hW M[j] hn)
      have HYx := Lib.hid (fun W hW => HY.out W hW M[j])
      have hlex := Hle.out M[j]
      have i1 : (j : Int) < (m : Int) + 2 := by omega
      by_cases hjm : j < m
      · obtain ⟨ad3, rfl, x3⟩ := (hr3.gr (hg6.trans' hb)).at_ (k := j) (by rw [List.length_map, hLm.out]; exact hjm)
        obtain ⟨ad4, rfl, x4⟩ := (hr4.gr (hg6.trans' hb)).at_ (k := j) (by rw [List.length_map, hLm.out]; exact hjm)
        rw [List.getElem_map, ← hMj.out j hjm hjM] at x3 x4
        generalize M[j] = x at *
        generalize s.read x = rd at *
        obtain ⟨rb, ri, re⟩ := rd
        simp only at HXx HYx hlex
        have e1 : (ri != ri) = false := by cases ri <;> rfl
        have e2 : (re != re) = false := by simp
        have e3 : (x != x) = false := by simp
        have e4 : (rb != rb) = false := by simp
        go_wp2_with fail
        go_quiet (fail)
        go_wp2_with (first
          | (go_at_call 16; (with_reducible refine (HXx.out _ ((hgW.trans' (hg6.trans' hb)).trans' (Gr.drawN _ _)) (by unfold maxLen; omega)).mono ?_); rintro e w7 ⟨A7, m7, c7, rfl, hm7, ho7, hg7⟩
             replace hm7 := Lib.hid hm7
             have hx7 := hg7.cell hx)
          | (go_at_call 44; (with_reducible refine (HYx.out _ (((hgW.trans' (hg6.trans' hb)).trans' (Gr.drawN _ _)).trans' hg7)).mono ?_); rintro e w8 ⟨rfl, hg8⟩
             have s7 := str_at c7 hm7.out.symm (ho7.rd.gr hg8)))
        go_roundw
        case rel => exact ⟨j + 1, by omega, by go_num, ((hb.trans' (Gr.drawN _ _)).trans' hg7).trans' hg8⟩
        case measure => simp [intOf]; omega
      · generalize M[j] = x at *
        generalize s.read x = rd at *
        obtain ⟨rb, ri, re⟩ := rd
        simp only at HXx HYx hlex
        have e1 : (ri != ri) = false := by cases ri <;> rfl
        have e2 : (re != re) = false := by simp
        have e4 : (rb != rb) = false := by simp
        have hjm' : ¬ (j : Int) < (m : Int) := by omega
        go_wp2_with fail
        go_quiet (fail)
        go_wp2_with (first
          | (go_at_call 16; (with_reducible refine (HXx.out _ ((hgW.trans' (hg6.trans' hb)).trans' (Gr.drawN _ _)) (by unfold maxLen; omega)).mono ?_); rintro e w7 ⟨A7, m7, c7, rfl, hm7, ho7, hg7⟩
             replace hm7 := Lib.hid hm7
             have hx7 := hg7.cell hx)
          | (go_at_call 44; (with_reducible refine (HYx.out _ (((hgW.trans' (hg6.trans' hb)).trans' (Gr.drawN _ _)).trans' hg7)).mono ?_); rintro e w8 ⟨rfl, hg8⟩
             have s7 := str_at c7 hm7.out.symm (ho7.rd.gr hg8)))
        go_roundw
        case rel => exact ⟨j + 1, by omega, by go_num, ((hb.trans' (Gr.drawN _ _)).trans' hg7).trans' hg8⟩
        case measure => simp [intOf]; omega
    · obtain rfl : j = m + 2 := by omega
      go_wp2
      go_ret
      exact ⟨rfl, hgW.trans' (hg6.trans' hb)⟩
end
end Go.Proofs.Ytopellbmmkflgaa
