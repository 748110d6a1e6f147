/- The walk of CodeBack. -/
import Derived.Test.YtnhokgnfkljfhaaLaw3
set_option linter.unusedVariables false
set_option linter.unusedSimpArgs false
namespace Go.Proofs.Ytnhokgnfkljfhaa.codeBack
open Go.RowKit

attribute [local go_sem] Vc.known_tmp Vc.known_const Vc.known_func Vc.known_global Vc.lk Vc.okUpon Vc.Fact.holds

set_option maxRecDepth 20000 in
set_option maxHeartbeats 8000000 in
theorem walk (w : World) (a0 : Option Addr) (n0 c0 : Nat) (x0 : List Int) (hn0 : Hid (x0.length = n0)) (hr0 : Rd w a0 (x0.map iv)) (hb0 : ∀ z ∈ x0, -9223372036854775808 ≤ z ∧ z ≤ 9223372036854775807) (hl0 : n0 ≤ c0) (hc0 : c0 ≤ maxLen)
    (a1 : Option Addr) (n1 c1 : Nat) (x1 : List ByteArray) (hn1 : Hid (x1.length = n1)) (hr1 : Rd w a1 (x1.map sv)) (hb1 : ∀ s ∈ x1, s.size ≤ maxLen) (hl1 : n1 ≤ c1) (hc1 : c1 ≤ maxLen) :
    Calls Try.prog 8 #[.slice a0 n0 c0, .slice a1 n1 c1] w fun e w' => e = .returned (.bool true) ∧ Below w.heap.size w w' := by
  obtain ⟨i0, hi, hz0, hz1, hz2⟩ := info_parts info_u8
  by_cases hA : 20 < n0
  · go_enter Try.func8, Try.ntmps8
    go_wp2_with (go_at_call 11; refine (known1_any _).mono ?_; rintro e w1 ⟨rfl, hg1⟩)
    go_ret
    exact ⟨rfl, hg1⟩
  by_cases hB : 10 < n1
  · go_enter Try.func8, Try.ntmps8
    go_wp2_with (go_at_call 11; refine (known1_any _).mono ?_; rintro e w1 ⟨rfl, hg1⟩)
    go_ret
    exact ⟨rfl, hg1⟩
  have HY := Lib.hid (fun W => wByte_any none 0 0 [] n0 W (Lib.hid rfl) (Rd.nil _ _) (by omega))
  rw [List.nil_append] at HY
  go_enter Try.func8, Try.ntmps8
  go_wp2_with (first
    | (go_at_call 11; refine (known1_any _).mono ?_; rintro e w1 ⟨rfl, hg1⟩)
    | (go_at_call 14; (with_reducible refine (HY.out _).mono ?_); rintro e w2 ⟨g2, n2, rfl, hn2, hg2, hr2, hgr2⟩))
  go_loopw [5, 6] (fun b i wr => ∃ j : Nat, j ≤ n0 ∧ i = .int .i64 j ∧ ∃ g n, b = .slice (some ⟨g, 0, none⟩) n n ∧ Hid (([u8 n0] ++ encI (x0.take j)).length = n) ∧ n ≤ 1 + 8 * j ∧ 0 < n ∧ w.heap.size ≤ g ∧ Row wr g 5 (([u8 n0] ++ encI (x0.take j)).map bv) ∧ Gr w wr) (fun _ i _ => n0 - (intOf i).toNat)
  case atStart =>
    obtain rfl : 1 = n2 := hn2.out
    exact ⟨0, by omega, rfl, _, _, rfl, Lib.hid rfl, by omega, by omega, Nat.le_trans hg1.size hg2, hr2, hg1.trans' hgr2⟩
  case round =>
    obtain ⟨j, hj, rfl, g, n, rfl, hn, hnj, hnp, hg, hr, hb⟩ := hrel
    by_cases hlt : j < n0
    · have hjl : j < x0.length := by have := hn0.out; omega
      obtain ⟨ad, rfl, hc⟩ := hr0.at_ (k := j) (by simpa using hjl)
      replace hc := hb.cell hc
      simp only [List.getElem_map, iv] at hc
      have hst := Lib.hid (encI_snoc hjl)
      generalize x0[j] = z at *
      go_wp2_with (go_at_call 12; (with_reducible refine (wInt_any _ n n _ z _ hn (Rd.of_row' hr) (by omega)).mono ?_); rintro e w3 ⟨g3, n3, rfl, hn3, hg3, hr3, hgr3⟩)
      go_roundw
      case rel =>
        rw [List.append_assoc, ← hst.out] at hn3 hr3
        have e3 : n3 = n + 8 := by
          have h1 := hn3.out
          have h2 := hn.out
          rw [hst.out] at h1
          simp only [List.length_append, le_length] at h1 h2
          omega
        exact ⟨j + 1, by omega, by go_num, _, _, rfl, hn3, by omega, by omega, Nat.le_trans hb.size hg3, hr3, hb.trans' hgr3⟩
      case measure => simp [intOf]; omega
    · obtain rfl : j = n0 := by omega
      rw [List.take_of_length_le (by have := hn0.out; omega)] at hn hr
      generalize hbase : [u8 j] ++ encI x0 = base at *
      replace hbase := Lib.hid hbase
      have hnn : n ≤ 170 + 202 * 0 := by omega
      have hA' : j ≤ 20 := by omega
      clear hlt hnj
      go_wp2_with fail
      go_loopw [5, 7] (fun b i wr => ∃ k : Nat, k ≤ n1 ∧ i = .int .i64 k ∧ ∃ g n, b = .slice (some ⟨g, 0, none⟩) n n ∧ Hid ((base ++ encT (x1.take k)).length = n) ∧ n ≤ 170 + 202 * k ∧ 0 < n ∧ w.heap.size ≤ g ∧ Row wr g 5 ((base ++ encT (x1.take k)).map bv) ∧ (∀ i (h : i < x1.length), i < k → x1[i].size ≤ 200) ∧ Gr w wr) (fun _ i _ => n1 - (intOf i).toNat)
      case atStart =>
        have e0 : base ++ encT (x1.take 0) = base := by simp [encT]
        rw [← e0] at hn hr
        exact ⟨0, by omega, rfl, _, _, rfl, hn, hnn, hnp, hg, hr, fun i h h' => absurd h' (by omega), hb⟩
      case round =>
        clear hr hg hn hb hnp hnn
        obtain ⟨k, hk, rfl, g, n, rfl, hn, hnn, hnp, hg, hr, hsz, hb⟩ := hrel
        by_cases hlt : k < n1
        · have hjl : k < x1.length := by have := hn1.out; omega
          obtain ⟨ad, rfl, hc⟩ := hr1.at_ (k := k) (by simpa using hjl)
          replace hc := hb.cell hc
          simp only [List.getElem_map, sv] at hc
          by_cases h2 : 200 < x1[k].size
          · generalize x1[k] = z at *
            go_wp2_with fail
            go_ret
            exact ⟨rfl, hb⟩
          have hst := encT_snoc hjl
          have hsz' : ∀ i (h : i < x1.length), i < k + 1 → x1[i].size ≤ 200 := by
            intro i h hi
            by_cases hik : i = k
            · subst hik
              omega
            · exact hsz i h (by omega)
          have hHT : ∀ W, Rd W (some ⟨g, 0, none⟩) ((base ++ encT (x1.take k)).map bv) → Calls Try.prog 16 #[.slice (some ⟨g, 0, none⟩) n n, .string x1[k]] W (FreshB W (base ++ encT (x1.take (k + 1)))) := by
            intro W h
            rw [hst, ← List.append_assoc, ← List.append_assoc, ← cutS_small (s := x1[k]) (by omega)]
            exact wText_any _ n n _ x1[k] W hn h (by omega) (by unfold maxLen; omega)
          have hlen : (base ++ encT (x1.take (k + 1))).length = n + (2 + x1[k].size) := by
            rw [hst, ← List.append_assoc, List.length_append, hn.out, List.length_append, le_length]
            simp
          have h200 : x1[k].size ≤ 200 := by omega
          clear hsz hst
          generalize hZ : x1[k] = z at *
          generalize hbs2 : base ++ encT (x1.take (k + 1)) = bs2 at *
          replace hbs2 := Lib.hid hbs2
          generalize base ++ encT (x1.take k) = bs1 at *
          replace hHT := Lib.hid hHT
          replace hlen := Lib.hid hlen
          replace hZ := Lib.hid hZ
          replace hsz' := Lib.hid hsz'
          go_wp2_with (go_at_call 16; (with_reducible refine (hHT.out _ (Rd.of_row' hr)).mono ?_); rintro e w3 ⟨g3, n3, rfl, hn3, hg3, hr3, hgr3⟩)
          go_roundw
          case rel =>
            have e3 : n3 = n + (2 + z.size) := hn3.out.symm.trans hlen.out
            exact ⟨k + 1, by omega, by go_num, _, _, rfl, by rw [hbs2.out]; exact hn3, by omega, by omega, Nat.le_trans hb.size hg3, by rw [hbs2.out]; exact hr3, hsz'.out, hb.trans' hgr3⟩
          case measure => simp [intOf]; omega
        · obtain rfl : k = n1 := by omega
          rw [List.take_of_length_le (by have := hn1.out; omega)] at hn hr
          have hsz' : ∀ i (h : i < x1.length), x1[i].size ≤ 200 := fun i h => hsz i h (by have := hn1.out; omega)
          clear hsz hlt
          generalize hB2 : base ++ encT x1 = B at *
          replace hB2 := Lib.hid hB2
          replace hsz' := Lib.hid hsz'
          have hn9 : n ≤ 2190 := by omega
          have hB' : k ≤ 10 := by omega
          clear hnn hk
          go_wp2_with fail
          have e60 : ((n : Int) == 0) = false := by simp; omega
          rw [e60]
          clear e60
          go_loopw [8] (fun i wr => ∃ k : Nat, k ≤ 3 ∧ i = .int .i64 k ∧ Row wr g 5 (B.map bv) ∧ Gr w wr) (fun i _ => 3 - (intOf i).toNat)
          case atStart => exact ⟨0, by omega, rfl, hr, hb⟩
          case round =>
            clear hr hb
            obtain ⟨kk, hkk, rfl, hr, hb⟩ := hrel
            by_cases hlt : kk < 3
            · have hNE : B ≠ [] := by intro h; have := hn.out; rw [h] at this; simp at this; omega
              have hHL : Hid ((B.map bv).length = n * 1) := Lib.hid (by have := hn.out; simpa using this)
              have hH7 : Hid ((B ++ [7]).length = n + 1) := Lib.hid (by have := hn.out; simpa using this)
              have hHD : Hid (B.dropLast.length = n - 1) := Lib.hid (by have := hn.out; rw [List.length_dropLast]; omega)
              have hrow9 := Lib.hid hr
              have hkk2 : kk = 0 ∨ kk = 1 ∨ kk = 2 := by omega
              have hgc := Nat.le_trans hb.size (Nat.le_refl _)
              have hgl : g < wr.heap.size := hr.lt
              have hPB : ∀ m X, Pk m B (X, 0) true → ∃ v s1, byteS (X, 0) = (v, s1) ∧ Pk m (encI x0 ++ encT x1) s1 (v == (j : Int)) := by
                intro m X h
                have e1 : B = [u8 (j : Int)] ++ (encI x0 ++ encT x1) := by rw [← hB2.out, ← hbase.out, List.append_assoc]
                rw [e1] at h
                exact h.byteTo (by omega) (by omega) rfl
              have hPI : ∀ m i (hi : i < x0.length) s b, Pk m (encI (x0.drop i) ++ encT x1) s b → ∃ v s1, intS s = (v, s1) ∧ Pk m (encI (x0.drop (i + 1)) ++ encT x1) s1 ((v == x0[i]) && b) :=
                fun m i hi s b h => h.intTo hi (hb0 _ (List.getElem_mem hi)).1 (hb0 _ (List.getElem_mem hi)).2
              have hPT : ∀ m i (hi : i < x1.length) s b, Pk m (encT (x1.drop i)) s b → ∃ v s1, textS s = (v, s1) ∧ Pk m (encT (x1.drop (i + 1))) s1 ((v == x1[i].data.toList) && b) :=
                fun m i hi s b h => h.textTo hi (hsz'.out i hi)
              replace hPI := Lib.hid hPI
              replace hPT := Lib.hid hPT
              rcases hkk2 with rfl | rfl | rfl
              case' inl =>
                obtain ⟨v, s1, hv, hP1⟩ := hPB 0 (B) (Pk.zero B)
                have HB := Lib.hid (rByte_to hv)
                have hPI := Lib.hid (hPI.out 0)
                have hPT := Lib.hid (hPT.out 0)
                have hE := Lib.hid (fun s b (h : Pk 0 [] s b) => h.end0)
                clear hPB hv
                generalize Pk 0 = PK at *
                generalize hok : (v == (j : Int)) = ok at *
                replace hok := Lib.hid hok
                go_wp2_with (first
                  | (go_at_call 19; (with_reducible refine (new_to hn.out (some ⟨g, 0, none⟩) n wr (Rd.of_row' hr) (by omega)).mono ?_); rintro e w5 ⟨gr, rfl, hgr, hs5, hgr5⟩; have hr5 := hr.gr hgr5; have hb5 := hb.trans' hgr5; have hne : g ≠ gr := (by omega); have hg' := Nat.le_trans hgc hgr)
                  | (go_at_call 23; (with_reducible refine (HB.out _ _ hs5).mono ?_); rintro e w6 ⟨rfl, hs6, ho6⟩; have hr6 := hr5.only ho6 hne; have hb6 := hb5.only ho6 hg'))
              case' inr.inl =>
                obtain ⟨v, s1, hv, hP1⟩ := hPB 1 (B ++ [7]) (Pk.one B)
                have HB := Lib.hid (rByte_to hv)
                have hPI := Lib.hid (hPI.out 1)
                have hPT := Lib.hid (hPT.out 1)
                have hE := Lib.hid (fun s b (h : Pk 1 [] s b) => h.end1)
                clear hPB hv
                generalize Pk 1 = PK at *
                generalize hok : (v == (j : Int)) = ok at *
                replace hok := Lib.hid hok
                go_wp2_with (first
                  | (at_builtin; with_reducible refine wpList_append (o := ⟨some 70, _, _, _, _, _⟩) _ rfl _ _ 22 rfl wr.heap.size 5 i0 _ 1 1 Try.underlying22 hi hz0 hz1 hz2 rfl (by omega) _ 0 0 [] rfl (Own.empty _ _ _) _ _ _ _ rfl hHL.out (Rd.of_row' (hr.gr (Gr.alloc1 _ _))) (bv_one _) (by omega) (by unfold maxLen; omega) (Gr.alloc1 _ _).size ?_
                     intro A2 c2 w2 hown2 hk2
                     simp only [Nat.zero_add, List.nil_append] at hown2
                     have hto2 := (AppTo.refl (Own.empty wr 5 1) (Gr.alloc1 _ _).size).step (by simpa using hown2) hk2
                     clear hown2 hk2)
                  | (at_builtin; with_reducible refine wpList_append (o := ⟨some 72, _, _, _, _, _⟩) _ rfl _ _ 22 rfl wr.heap.size 5 i0 _ 1 1 Try.underlying22 hi hz0 hz1 hz2 rfl (by omega) A2 n c2 _ rfl (hto2.own.gr (Gr.alloc1 _ _)) _ 1 1 [.int .u8 7] rfl rfl (Rd.one_new _ _ _) (by simp [Value.oneCell']) (by omega) (by unfold maxLen; omega) (by have := hto2.base; have := hto2.size; have := (Gr.alloc1 w2 (.cells #[.int .u8 7] 5)).size; omega) ?_
                     intro A3 c3 w3 hown3 hk3
                     have hto3 := (hto2.gr (Gr.alloc1 _ _)).step hown3 hk3
                     have hg3 : Gr wr w3 := (Gr.alloc1 wr (.cells #[] 5)).grown hto3.grown (Gr.alloc1 wr (.cells #[] 5)).size (fun k hk => by cases hk; exact Nat.le_refl _)
                     have hd3 : Rd w3 A3 ((B ++ [7]).map bv) := by
                       have := hto3.own.rd
                       rw [List.map_append]
                       simpa [bv] using this
                     have hr3 := hr.gr hg3
                     have hb3 := hb.trans' hg3
                     have hg3s := hg3.size
                     clear hown3 hk3 hto2 hto3)
                  | (go_at_call 19; (with_reducible refine (new_to hH7.out A3 c3 w3 hd3 (by omega)).mono ?_); rintro e w5 ⟨gr, rfl, hgr, hs5, hgr5⟩; have hr5 := hr3.gr hgr5; have hb5 := hb3.trans' hgr5; have hgr := Nat.le_trans hg3s hgr; have hne : g ≠ gr := (by omega); have hg' := Nat.le_trans hgc hgr)
                  | (go_at_call 23; clear hg3 hd3 hr3 hb3 hg3s; (with_reducible refine (HB.out _ _ hs5).mono ?_); rintro e w6 ⟨rfl, hs6, ho6⟩; have hr6 := hr5.only ho6 hne; have hb6 := hb5.only ho6 hg'))
              case' inr.inr =>
                obtain ⟨v, s1, hv, hP1⟩ := hPB 2 (B.dropLast) (Pk.two hNE)
                have HB := Lib.hid (rByte_to hv)
                have hPI := Lib.hid (hPI.out 2)
                have hPT := Lib.hid (hPT.out 2)
                have hE := Lib.hid (fun s b (h : Pk 2 [] s b) => h.end2)
                clear hPB hv
                generalize Pk 2 = PK at *
                generalize hok : (v == (j : Int)) = ok at *
                replace hok := Lib.hid hok
                go_wp2_with (first
                  | (go_at_call 19; (with_reducible refine (new_to hHD.out (some ⟨g, 0, none⟩) n wr (by rw [List.dropLast_eq_take, List.map_take]; exact (Rd.of_row' hr).take _) (by omega)).mono ?_); rintro e w5 ⟨gr, rfl, hgr, hs5, hgr5⟩; have hr5 := hr.gr hgr5; have hb5 := hb.trans' hgr5; have hne : g ≠ gr := (by omega); have hg' := Nat.le_trans hgc hgr)
                  | (go_at_call 23; (with_reducible refine (HB.out _ _ hs5).mono ?_); rintro e w6 ⟨rfl, hs6, ho6⟩; have hr6 := hr5.only ho6 hne; have hb6 := hb5.only ho6 hg'))
              all_goals
                replace hP1 := Lib.hid hP1
                clear hr5 hb5 hs5 HB
                go_loopw [11, 12] (fun o i wx => ∃ m : Nat, m ≤ j ∧ i = .int .i64 m ∧ ∃ b s, o = .bool b ∧ Hid (PK (encI (x0.drop m) ++ encT x1) s b) ∧ RdrAt wx gr s ∧ Row wx g 5 (B.map bv) ∧ Gr w wx) (fun _ i _ => j - (intOf i).toNat)
                case atStart => exact ⟨0, by omega, rfl, _, _, rfl, by rw [hok.out]; exact hP1, hs6, hr6, hb6⟩
                case round =>
                  clear hs6 hr6 hb6 hP1
                  obtain ⟨m, hm, rfl, b, s, rfl, hP, hs, hr4, hb4⟩ := hrel
                  by_cases hlt4 : m < j
                  · have hjl : m < x0.length := by have := hn0.out; omega
                    obtain ⟨ad, rfl, hc⟩ := hr0.at_ (k := m) (by simpa using hjl)
                    simp only [List.getElem_map, iv] at hc
                    obtain ⟨v, s', hv, hP'⟩ := hPI.out m hjl _ _ hP.out
                    generalize x0[m] = z at *
                    have RI := Lib.hid (rInt_to hv)
                    have hP'' : v = z → PK (encI (x0.drop (m + 1)) ++ encT x1) s' b := by
                      rintro rfl
                      simpa using hP'
                    have hPf : ¬ v = z → PK (encI (x0.drop (m + 1)) ++ encT x1) s' false := by
                      intro h
                      have e : (v == z) = false := by simpa using h
                      rw [e] at hP'
                      simpa using hP'
                    clear hP' hv hP
                    by_cases hvz : v = z
                    · subst hvz
                      have hP := Lib.hid (hP'' rfl)
                      clear hP'' hPf
                      go_wp2_with fail
                      refine Vc.wp_region_facts ⟨fun W W' => W = W', fun _ W W' => W.grownBy W' (some gr), fun k W => Row W g 5 (B.map bv) ∧ Gr w W ∧ (k = 0 → RdrAt W gr s) ∧ (k = 1 → RdrAt W gr s'), [1]⟩ (by kernel_rfl) (by kernel_rfl) ?_ ?_ ?_
                      · rintro k W W' rfl h
                        exact h
                      · exact ⟨hr4.gr (Gr.draw _), hb4.trans' (Gr.draw _), fun _ => hs.gr (Gr.draw _), fun h => (by cases h)⟩
                      refine Vc.Walk.pure (v := ?_) (fun _ => rfl) rfl (by first | exact Vc.GuardYes.no rfl | exact Vc.GuardYes.yes rfl rfl) rfl rfl ?_ ?_
                      rotate_left
                      · intro _ W hI
                        clear hI
                        go_simp
                        exact rfl
                      refine Vc.Walk.call (.is (.int .i64 v)) trivial (.no rfl) rfl rfl ?_ ?_
                      · intro k W hI
                        obtain rfl := hI.eq 0 rfl
                        obtain ⟨q1, q2, q3, _⟩ := hI.g
                        clear hI
                        go_simp
                        refine (RI.out gr W (q3 rfl)).mono ?_
                        rintro e W' ⟨rfl, hs', ho'⟩
                        exact ⟨_, rfl, rfl, ho', q1.only ho' hne, q2.only ho' hg', fun h => (by cases h), fun _ => hs'⟩
                      repeat
                        refine Vc.Walk.pure (v := ?_) (fun _ => rfl) rfl (by first | exact Vc.GuardYes.no rfl | exact Vc.GuardYes.yes rfl rfl) rfl rfl ?_ ?_
                        rotate_left
                        · intro _ W hI
                          (obtain ⟨q1, q2, _⟩ := hI.g; have hcW := q2.cell hc; clear q1 q2 hI)
                          go_simp
                          exact rfl
                      intro W hW
                      obtain ⟨q1, q2, d1, q5⟩ := hW
                      replace q5 := q5 rfl
                      clear d1 RI
                      simp only [List.reverse_cons, List.reverse_nil, List.nil_append, List.cons_append, Vc.finish, Act.put]
                      simp
                      go_wp2_with fail
                      refine ⟨⟨m + 1, by omega, by go_num, _, _, rfl, hP, q5, q1, q2⟩, by simp [intOf]; omega⟩
                    · have hP := Lib.hid (hPf hvz)
                      have hvf : (v == z) = false := by simpa using hvz
                      clear hvz
                      clear hP'' hPf
                      go_wp2_with fail
                      refine Vc.wp_region_facts ⟨fun W W' => W = W', fun _ W W' => W.grownBy W' (some gr), fun k W => Row W g 5 (B.map bv) ∧ Gr w W ∧ (k = 0 → RdrAt W gr s) ∧ (k = 1 → RdrAt W gr s'), [1]⟩ (by kernel_rfl) (by kernel_rfl) ?_ ?_ ?_
                      · rintro k W W' rfl h
                        exact h
                      · exact ⟨hr4.gr (Gr.draw _), hb4.trans' (Gr.draw _), fun _ => hs.gr (Gr.draw _), fun h => (by cases h)⟩
                      refine Vc.Walk.pure (v := ?_) (fun _ => rfl) rfl (by first | exact Vc.GuardYes.no rfl | exact Vc.GuardYes.yes rfl rfl) rfl rfl ?_ ?_
                      rotate_left
                      · intro _ W hI
                        clear hI
                        go_simp
                        exact rfl
                      refine Vc.Walk.call (.is (.int .i64 v)) trivial (.no rfl) rfl rfl ?_ ?_
                      · intro k W hI
                        obtain rfl := hI.eq 0 rfl
                        obtain ⟨q1, q2, q3, _⟩ := hI.g
                        clear hI
                        go_simp
                        refine (RI.out gr W (q3 rfl)).mono ?_
                        rintro e W' ⟨rfl, hs', ho'⟩
                        exact ⟨_, rfl, rfl, ho', q1.only ho' hne, q2.only ho' hg', fun h => (by cases h), fun _ => hs'⟩
                      repeat
                        refine Vc.Walk.pure (v := ?_) (fun _ => rfl) rfl (by first | exact Vc.GuardYes.no rfl | exact Vc.GuardYes.yes rfl rfl) rfl rfl ?_ ?_
                        rotate_left
                        · intro _ W hI
                          (obtain ⟨q1, q2, _⟩ := hI.g; have hcW := q2.cell hc; clear q1 q2 hI)
                          go_simp
                          exact rfl
                      refine Vc.Walk.skip (fun _ => rfl) rfl rfl rfl (by decide) ?_
                      repeat
                        refine Vc.Walk.pure (v := ?_) (fun _ => rfl) rfl (by first | exact Vc.GuardYes.no rfl | exact Vc.GuardYes.yes rfl rfl) rfl rfl ?_ ?_
                        rotate_left
                        · intro _ W hI
                          (obtain ⟨q1, q2, _⟩ := hI.g; have hcW := q2.cell hc; clear q1 q2 hI)
                          go_simp
                          exact rfl
                      intro W hW
                      obtain ⟨q1, q2, d1, q5⟩ := hW
                      replace q5 := q5 rfl
                      clear d1 RI
                      simp only [List.reverse_cons, List.reverse_nil, List.nil_append, List.cons_append, Vc.finish, Act.put]
                      simp
                      go_wp2_with fail
                      refine ⟨⟨m + 1, by omega, by go_num, _, _, rfl, hP, q5, q1, q2⟩, by simp [intOf]; omega⟩
                  · obtain rfl : j = m := by omega
                    have e7 : x0.drop j = [] := List.drop_eq_nil_of_le (by have := hn0.out; omega)
                    rw [e7, encI, List.flatMap_nil, List.nil_append] at hP
                    clear e7 hlt4
                    go_wp2_with fail
                    go_loopw [11, 13] (fun o i wx => ∃ m : Nat, m ≤ k ∧ i = .int .i64 m ∧ ∃ b s, o = .bool b ∧ Hid (PK (encT (x1.drop m)) s b) ∧ RdrAt wx gr s ∧ Row wx g 5 (B.map bv) ∧ Gr w wx) (fun _ i _ => k - (intOf i).toNat)
                    case atStart => exact ⟨0, by omega, rfl, _, _, rfl, hP, hs, hr4, hb4⟩
                    case round =>
                      clear hs hr4 hb4 hP
                      obtain ⟨m, hm, rfl, b, s, rfl, hP, hs, hr4, hb4⟩ := hrel
                      by_cases hlt4 : m < k
                      · have hjl : m < x1.length := by have := hn1.out; omega
                        obtain ⟨ad, rfl, hc⟩ := hr1.at_ (k := m) (by simpa using hjl)
                        simp only [List.getElem_map, sv] at hc
                        obtain ⟨v, s', hv, hP'⟩ := hPT.out m hjl _ _ hP.out
                        generalize x1[m] = z at *
                        have RI := Lib.hid (rText_to hv)
                        have hP'' : v = z.data.toList → PK (encT (x1.drop (m + 1))) s' b := by
                          rintro rfl
                          simpa using hP'
                        have hPf : ¬ v = z.data.toList → PK (encT (x1.drop (m + 1))) s' false := by
                          intro h
                          have e : (v == z.data.toList) = false := by simpa using h
                          rw [e] at hP'
                          simpa using hP'
                        clear hP' hv hP
                        by_cases hvz : v = z.data.toList
                        · have hP := Lib.hid (hP'' hvz)
                          have ez := data_eq.2 hvz
                          clear hvz
                          subst ez
                          clear hP'' hPf
                          go_wp2_with fail
                          refine Vc.wp_region_facts ⟨fun W W' => W = W', fun _ W W' => W.grownBy W' (some gr), fun k W => Row W g 5 (B.map bv) ∧ Gr w W ∧ (k = 0 → RdrAt W gr s) ∧ (k = 1 → RdrAt W gr s'), [1]⟩ (by kernel_rfl) (by kernel_rfl) ?_ ?_ ?_
                          · rintro k W W' rfl h
                            exact h
                          · exact ⟨hr4.gr (Gr.draw _), hb4.trans' (Gr.draw _), fun _ => hs.gr (Gr.draw _), fun h => (by cases h)⟩
                          refine Vc.Walk.pure (v := ?_) (fun _ => rfl) rfl (by first | exact Vc.GuardYes.no rfl | exact Vc.GuardYes.yes rfl rfl) rfl rfl ?_ ?_
                          rotate_left
                          · intro _ W hI
                            clear hI
                            go_simp
                            exact rfl
                          refine Vc.Walk.call (.is (.string ⟨v.toArray⟩)) trivial (.no rfl) rfl rfl ?_ ?_
                          · intro k W hI
                            obtain rfl := hI.eq 0 rfl
                            obtain ⟨q1, q2, q3, _⟩ := hI.g
                            clear hI
                            go_simp
                            refine (RI.out gr W (q3 rfl)).mono ?_
                            rintro e W' ⟨rfl, hs', ho'⟩
                            exact ⟨_, rfl, rfl, ho', q1.only ho' hne, q2.only ho' hg', fun h => (by cases h), fun _ => hs'⟩
                          repeat
                            refine Vc.Walk.pure (v := ?_) (fun _ => rfl) rfl (by first | exact Vc.GuardYes.no rfl | exact Vc.GuardYes.yes rfl rfl) rfl rfl ?_ ?_
                            rotate_left
                            · intro _ W hI
                              (obtain ⟨q1, q2, _⟩ := hI.g; have hcW := q2.cell hc; clear q1 q2 hI)
                              go_simp
                              exact rfl
                          intro W hW
                          obtain ⟨q1, q2, d1, q5⟩ := hW
                          replace q5 := q5 rfl
                          clear d1 RI
                          simp only [List.reverse_cons, List.reverse_nil, List.nil_append, List.cons_append, Vc.finish, Act.put]
                          simp
                          go_wp2_with fail
                          refine ⟨⟨m + 1, by omega, by go_num, _, _, rfl, hP, q5, q1, q2⟩, by simp [intOf]; omega⟩
                        · have hP := Lib.hid (hPf hvz)
                          have hvf : (v == z.toList) = false := by rw [ByteArray.toList_eq]; simpa using hvz
                          clear hvz
                          clear hP'' hPf
                          go_wp2_with fail
                          refine Vc.wp_region_facts ⟨fun W W' => W = W', fun _ W W' => W.grownBy W' (some gr), fun k W => Row W g 5 (B.map bv) ∧ Gr w W ∧ (k = 0 → RdrAt W gr s) ∧ (k = 1 → RdrAt W gr s'), [1]⟩ (by kernel_rfl) (by kernel_rfl) ?_ ?_ ?_
                          · rintro k W W' rfl h
                            exact h
                          · exact ⟨hr4.gr (Gr.draw _), hb4.trans' (Gr.draw _), fun _ => hs.gr (Gr.draw _), fun h => (by cases h)⟩
                          refine Vc.Walk.pure (v := ?_) (fun _ => rfl) rfl (by first | exact Vc.GuardYes.no rfl | exact Vc.GuardYes.yes rfl rfl) rfl rfl ?_ ?_
                          rotate_left
                          · intro _ W hI
                            clear hI
                            go_simp
                            exact rfl
                          refine Vc.Walk.call (.is (.string ⟨v.toArray⟩)) trivial (.no rfl) rfl rfl ?_ ?_
                          · intro k W hI
                            obtain rfl := hI.eq 0 rfl
                            obtain ⟨q1, q2, q3, _⟩ := hI.g
                            clear hI
                            go_simp
                            refine (RI.out gr W (q3 rfl)).mono ?_
                            rintro e W' ⟨rfl, hs', ho'⟩
                            exact ⟨_, rfl, rfl, ho', q1.only ho' hne, q2.only ho' hg', fun h => (by cases h), fun _ => hs'⟩
                          repeat
                            refine Vc.Walk.pure (v := ?_) (fun _ => rfl) rfl (by first | exact Vc.GuardYes.no rfl | exact Vc.GuardYes.yes rfl rfl) rfl rfl ?_ ?_
                            rotate_left
                            · intro _ W hI
                              (obtain ⟨q1, q2, _⟩ := hI.g; have hcW := q2.cell hc; clear q1 q2 hI)
                              go_simp
                              exact rfl
                          refine Vc.Walk.skip (fun _ => rfl) rfl rfl rfl (by decide) ?_
                          repeat
                            refine Vc.Walk.pure (v := ?_) (fun _ => rfl) rfl (by first | exact Vc.GuardYes.no rfl | exact Vc.GuardYes.yes rfl rfl) rfl rfl ?_ ?_
                            rotate_left
                            · intro _ W hI
                              (obtain ⟨q1, q2, _⟩ := hI.g; have hcW := q2.cell hc; clear q1 q2 hI)
                              go_simp
                              exact rfl
                          intro W hW
                          obtain ⟨q1, q2, d1, q5⟩ := hW
                          replace q5 := q5 rfl
                          clear d1 RI
                          simp only [List.reverse_cons, List.reverse_nil, List.nil_append, List.cons_append, Vc.finish, Act.put]
                          simp
                          go_wp2_with fail
                          refine ⟨⟨m + 1, by omega, by go_num, _, _, rfl, hP, q5, q1, q2⟩, by simp [intOf]; omega⟩
                      · obtain rfl : k = m := by omega
                        have e7 : x1.drop k = [] := List.drop_eq_nil_of_le (by have := hn1.out; omega)
                        rw [e7, encT, List.flatMap_nil] at hP
                        clear e7 hlt4
                        obtain ⟨e1, e2⟩ := hE.out _ _ hP.out
                        have RE := Lib.hid (rEnd_to e1)
                        first | subst e2 | clear e2
                        clear e1 hE hPI hPT
                        go_wp2_with (go_at_call 21; (with_reducible refine (RE.out _ _ hs).mono ?_); rintro e _ ⟨rfl, rfl⟩)
                        go_roundw
                        case rel => first | exact ⟨1, by omega, rfl, hr4, hb4⟩ | exact ⟨2, by omega, rfl, hr4, hb4⟩ | exact ⟨3, by omega, rfl, hr4, hb4⟩
                        case measure => simp [intOf]
            · obtain rfl : kk = 3 := by omega
              go_wp2_with fail
              go_ret
              exact ⟨rfl, hb⟩
end Go.Proofs.Ytnhokgnfkljfhaa.codeBack
