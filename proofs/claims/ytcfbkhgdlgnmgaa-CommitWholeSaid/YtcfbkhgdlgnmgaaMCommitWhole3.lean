/-
  The statement of 'CommitWhole': the Go function returns true at every input, and its arguments read as before.
  Conditions: none.
-/
import Derived.Test.YtcfbkhgdlgnmgaaMCommitWhole2
import Derived.Test.YtcfbkhgdlgnmgaaRows
set_option linter.unusedVariables false
set_option linter.unusedSimpArgs false
set_option maxRecDepth 100000
namespace Go.Proofs.Ytcfbkhgdlgnmgaa
open Go.RowKit Go.Maps Go.Sort
section
variable {X Z : Nat → Prop} {w w' : World} {p : Nat} {s : V} {A : Option Addr} {rs : List FlR}
structure Sd (s : V) : Prop where
  ops : s.ops ≤ 700000
  stop : s.stop ≤ 700000
theorem Sd.sc (h : Sd s) {s' : V} (h1 : s'.ops ≤ s.ops + 10000) (h2 : s'.stop ≤ s.stop) : Sc s' := ⟨by have := h.ops; omega, by have := h.stop; omega⟩
theorem bytesM_le (l : List Fl) (h : l.length ≤ 255) : (bytesM l).length ≤ 40000000 := by
  have := bytesTo_le l.length l
  rw [bytesTo_all] at this
  omega
theorem flat_le : ∀ (l : List Fl), (∀ f ∈ l, f.1.length ≤ 20 ∧ f.2.length ≤ 8000) → (l.flatMap fun f => textB f.1 ++ textB f.2).length ≤ l.length * 8024
  | [], _ => by simp
  | f :: l, h => by
    have h1 := flat_le l (fun g hg => h g (by simp [hg]))
    have h2 := h f (by simp)
    rw [List.flatMap_cons, List.length_append, List.length_append, textB_length (by omega), textB_length (by omega), List.length_cons]
    omega
theorem bytesM_small {l : List Fl} (h : mayM l = 0) : (bytesM l).length ≤ 100000 := by
  obtain ⟨h1, h2, h3⟩ := mayM_zero h
  have := flat_le l (fun f hf => ⟨(nameBad_len (mayGo_zero h3 f hf).1).2.1, (mayGo_zero h3 f hf).2⟩)
  unfold bytesM
  rw [List.length_cons]
  omega
theorem lot_kept (hz : ∀ i, Z i → ¬ X i ∧ i < w.heap.size) {w1 : World} {X1 : Nat → Prop} (hm : Mv w X w1 X1) : ∀ i, Z i → ¬ X1 i ∧ i < w1.heap.size := fun i hi => by
  have h1 := hz i hi
  refine ⟨fun hx => ?_, ?_⟩
  · rcases hm.new i hx with h2 | h2
    · exact h1.1 h2
    · omega
  · have := hm.tr.size
    omega
set_option maxHeartbeats 4000000 in
theorem commit_any (h : At w X p s) (hs0 : Sd s) (hf : FlS w Z A rs) (hz : ∀ i, Z i → ¬ X i ∧ i < w.heap.size) (c : Nat) (hl : rs.length ≤ 255) (hc : rs.length ≤ c) (hb : ∀ f ∈ rs, f.q.n ≤ 1000000) :
    Calls Try.prog 19 #[.pointer (some ⟨p, 0, none⟩), .slice A rs.length c] w fun e w' => e = .returned (.int .i64 (commitM s (rs.map FlR.fl)).2) ∧ ∃ X', At w' X' p (commitM s (rs.map FlR.fl)).1 ∧ Mv w X w' X' := by
  have hs := hs0.sc (s' := s) (by omega) (Nat.le_refl _)
  have HB := Lib.hid (bytes_any hf c hl hb)
  have HM := Lib.hid (fun W (hg : Gr w W) => may_any (hf.gr hg) c hl hc hb)
  have HFi := Lib.hid (fun (h1 : 1 ≤ rs.length) W (hg : Gr w W) A2 n2 c2 b hn2 hl2 => fits_any (h.gr hg) hs (hf.gr hg) c hl h1 hb A2 n2 c2 b hn2 hl2)
  have HPj := Lib.hid (fun W (hg : Gr w W) A2 n2 c2 b hn2 hr hl2 => put_any (h.gr hg) (hs.sl (s' := s) (by omega) (Nat.le_refl _)) jn (by decide) A2 n2 c2 b hn2 hr hl2)
  have HPm := Lib.hid (fun W X1 v (ha : At W X1 p v) (ho : v.ops ≤ s.ops + 2) (hp : v.stop ≤ s.stop) => put_any ha (hs.sl (s' := v) (by omega) hp) mk (by decide) none 0 0 [] (Lib.hid rfl) (Rd.nil _ _) (by omega))
  have HW := Lib.hid (fun W X1 v (ha : At W X1 p v) (hm : Mv w X W X1) (ho : Sc v) => cwrite_any ha ho (hf.tr hm.tr (fun i hi => (hz i hi).1)) (lot_kept hz hm) c hl hb)
  obtain ⟨l, hl0⟩ : ∃ l, l = rs.map FlR.fl := ⟨_, rfl⟩
  rw [← hl0] at HB HM HFi HW ⊢
  have hll : l.length ≤ 255 := by rw [hl0, List.length_map]; exact hl
  have hLEN : l.length = rs.length := by rw [hl0, List.length_map]
  clear hl0
  obtain ⟨R, hR⟩ : ∃ R, R = commitM s l := ⟨_, rfl⟩
  rw [← hR]
  have hbl := bytesM_le l hll
  have HRs := Lib.hid hR
  clear hR
  go_enter Try.func19, Try.ntmps19
  go_wp2_with fail
  refine wp_scope_jumps 0 (fun a W => ∃ u0 u1 u2 u3 u4 u5 u7 u8 u9 u10 u11 u12 u13 u14 u15 u16 u17 u18 u19 u20 u21 u22 u23 u24 u25 u26 u27 u28 u29 u30 u31 : Value, a = { tmps := #[u0, u1, u2, u3, u4, u5, .int .i64 R.2, u7, u8, u9, u10, u11, u12, u13, u14, u15, u16, u17, u18, u19, u20, u21, u22, u23, u24, u25, u26, u27, u28, u29, u30, u31], defers := [] } ∧ ∃ X', At W X' p R.1 ∧ Mv w X W X') (fun _ _ => 0) rfl ?_ ?_
  · obtain ⟨m, hm⟩ : ∃ m, m = mayM l := ⟨_, rfl⟩
    rw [← hm] at HM
    by_cases hm0 : m = 0
    · subst hm0
      have hbs := bytesM_small hm.symm
      have hn1 : 1 ≤ rs.length := by have := (mayM_zero hm.symm).1; omega
      have HFi2 := Lib.hid (HFi.out hn1)
      obtain ⟨m2, hm2⟩ : ∃ m2, m2 = fitsM s l (bytesM l) := ⟨_, rfl⟩
      have HFi3 := Lib.hid (fun W (hg : Gr w W) A2 n2 c2 (hn2 : (bytesM l).length = n2) hl2 => hm2 ▸ HFi2.out W hg A2 n2 c2 (bytesM l) hn2 hl2)
      clear HFi HFi2
      by_cases hm20 : m2 = 0
      · subst hm20
        have hR3 : R = V.thn (V.thn (putM s jn (bytesM l)) (putM · mk [])) (writeM · l) := by rw [HRs.out]; unfold commitM; rw [if_neg (by simp [hm.symm]), if_neg (by simp [hm2.symm])]
        have hop := putM_ops s jn (bytesM l)
        have HPj2 := Lib.hid (fun W (hg : Gr w W) A2 n2 c2 hn2 hr hl2 => HPj.out W hg A2 n2 c2 (bytesM l) hn2 hr hl2)
        clear HPj hm hm2
        generalize putM s jn (bytesM l) = r at hR3 hop HPj2
        obtain ⟨v1, e1⟩ := r
        simp only at hop HPj2
        have hop := Lib.hid hop
        by_cases he1 : e1 = 0
        · subst he1
          rw [thn_ok (r := (v1, 0)) rfl] at hR3
          have hop2 := putM_ops v1 mk []
          have HPm2 := Lib.hid (fun W X1 (ha : At W X1 p v1) => HPm.out W X1 v1 ha hop.out.1 hop.out.2)
          clear HPm
          simp only at hR3
          generalize putM v1 mk [] = r2 at hR3 hop2 HPm2
          obtain ⟨v2, e2⟩ := r2
          simp only at hop2 HPm2
          have hop2 := Lib.hid hop2
          by_cases he2 : e2 = 0
          · subst he2
            rw [thn_ok (r := (v2, 0)) rfl] at hR3
            have HRR := Lib.hid hR3
            clear hR3
            have HWv := Lib.hid (fun W X1 (ha : At W X1 p v2) (hm : Mv w X W X1) => HW.out W X1 v2 ha hm (hs0.sc (by have := hop.out.1; have := hop2.out.1; omega) (Nat.le_trans hop2.out.2 hop.out.2)))
            clear HW
            simp only at HRR
            rw [← HRR.out] at HWv
            go_wp2_with (first
              | (go_at_call 39; refine HB.out.mono ?_; rintro e w1 ⟨vb, rfl, ⟨A1, n1, c1, rfl, hn1, hr1⟩, hg1⟩)
              | (go_at_call 40; refine (HM.out _ hg1).mono ?_; rintro e w2 ⟨rfl, hg2⟩)
              | (go_at_call 41; refine (HFi3.out _ (hg1.trans' hg2) A1 n1 c1 hn1.out (by have := hn1.out; omega)).mono ?_; rintro e w3 ⟨rfl, hg3⟩)
              | (go_at_call 42; refine (HPm2.out _ _ hq4.out.1).mono ?_; rintro e w5 ⟨rfl, X5, ha5, hm5⟩; have hq5 := Lib.hid (And.intro ha5 hm5); clear ha5 hm5)
              | (go_at_call 42; refine (HPj2.out _ ((hg1.trans' hg2).trans' hg3) A1 n1 c1 hn1 ((hr1.gr hg2).gr hg3) (by have := hn1.out; omega)).mono ?_; rintro e w4 ⟨rfl, X4, ha4, hm4⟩; have hq4 := Lib.hid (And.intro ha4 hm4); clear ha4 hm4)
              | (go_at_call 43; refine (HWv.out _ _ hq5.out.1 (((Mv.of_gr ((hg1.trans' hg2).trans' hg3) X).trans hq4.out.2).trans hq5.out.2)).mono ?_; rintro e w6 ⟨rfl, X6, ha6, hm6⟩; have hq6 := Lib.hid (And.intro ha6 hm6); clear ha6 hm6))
            go_step3
            go_wp2
            try simp only [Exit.jump]
            go_ret
            exact ⟨rfl, X6, hq6.out.1, (((Mv.of_gr ((hg1.trans' hg2).trans' hg3) X).trans hq4.out.2).trans hq5.out.2).trans hq6.out.2⟩
          · have HRR := Lib.hid (show R = (v2, e2) by rw [hR3, thn_bad (r := (v2, e2)) he2])
            clear hR3
            have hbn2 : (e2 != 0) = true := by simpa using he2
            go_wp2_with (first
              | (go_at_call 39; refine HB.out.mono ?_; rintro e w1 ⟨vb, rfl, ⟨A1, n1, c1, rfl, hn1, hr1⟩, hg1⟩)
              | (go_at_call 40; refine (HM.out _ hg1).mono ?_; rintro e w2 ⟨rfl, hg2⟩)
              | (go_at_call 41; refine (HFi3.out _ (hg1.trans' hg2) A1 n1 c1 hn1.out (by have := hn1.out; omega)).mono ?_; rintro e w3 ⟨rfl, hg3⟩)
              | (go_at_call 42; refine (HPm2.out _ _ hq4.out.1).mono ?_; rintro e w5 ⟨rfl, X5, ha5, hm5⟩; have hq5 := Lib.hid (And.intro ha5 hm5); clear ha5 hm5)
              | (go_at_call 42; refine (HPj2.out _ ((hg1.trans' hg2).trans' hg3) A1 n1 c1 hn1 ((hr1.gr hg2).gr hg3) (by have := hn1.out; omega)).mono ?_; rintro e w4 ⟨rfl, X4, ha4, hm4⟩; have hq4 := Lib.hid (And.intro ha4 hm4); clear ha4 hm4))
            try go_step3
            exact ⟨rfl, _, _, _, _, _, _, _, _, _, _, _, _, _, _, _, _, _, _, _, _, _, _, _, _, _, _, _, _, _, _, _, (by rw [HRR.out]), X5, (by rw [HRR.out]; exact hq5.out.1), ((Mv.of_gr ((hg1.trans' hg2).trans' hg3) X).trans hq4.out.2).trans hq5.out.2⟩
        · have HRR := Lib.hid (show R = (v1, e1) by rw [hR3, thn_bad (r := (v1, e1)) he1, thn_bad (r := (v1, e1)) he1])
          clear hR3
          have hbn2 : (e1 != 0) = true := by simpa using he1
          go_wp2_with (first
            | (go_at_call 39; refine HB.out.mono ?_; rintro e w1 ⟨vb, rfl, ⟨A1, n1, c1, rfl, hn1, hr1⟩, hg1⟩)
            | (go_at_call 40; refine (HM.out _ hg1).mono ?_; rintro e w2 ⟨rfl, hg2⟩)
            | (go_at_call 41; refine (HFi3.out _ (hg1.trans' hg2) A1 n1 c1 hn1.out (by have := hn1.out; omega)).mono ?_; rintro e w3 ⟨rfl, hg3⟩)
            | (go_at_call 42; refine (HPj2.out _ ((hg1.trans' hg2).trans' hg3) A1 n1 c1 hn1 ((hr1.gr hg2).gr hg3) (by have := hn1.out; omega)).mono ?_; rintro e w4 ⟨rfl, X4, ha4, hm4⟩; have hq4 := Lib.hid (And.intro ha4 hm4); clear ha4 hm4))
          try go_step3
          exact ⟨rfl, _, _, _, _, _, _, _, _, _, _, _, _, _, _, _, _, _, _, _, _, _, _, _, _, _, _, _, _, _, _, _, (by rw [HRR.out]), X4, (by rw [HRR.out]; exact hq4.out.1), (Mv.of_gr ((hg1.trans' hg2).trans' hg3) X).trans hq4.out.2⟩
      · have HRR := Lib.hid (show R = (s, m2) by rw [HRs.out, hm2]; unfold commitM; rw [if_neg (by simp [hm.symm]), if_pos (by rw [← hm2]; exact hm20)])
        have hbn2 : (m2 != 0) = true := by simpa using hm20
        clear hm hm2
        go_wp2_with (first
          | (go_at_call 39; refine HB.out.mono ?_; rintro e w1 ⟨vb, rfl, ⟨A1, n1, c1, rfl, hn1, hr1⟩, hg1⟩)
          | (go_at_call 40; refine (HM.out _ hg1).mono ?_; rintro e w2 ⟨rfl, hg2⟩)
          | (go_at_call 41; refine (HFi3.out _ (hg1.trans' hg2) A1 n1 c1 hn1.out (by have := hn1.out; omega)).mono ?_; rintro e w3 ⟨rfl, hg3⟩))
        try go_step3
        exact ⟨rfl, _, _, _, _, _, _, _, _, _, _, _, _, _, _, _, _, _, _, _, _, _, _, _, _, _, _, _, _, _, _, _, (by rw [HRR.out]), X, (by rw [HRR.out]; exact h.gr ((hg1.trans' hg2).trans' hg3)), Mv.of_gr ((hg1.trans' hg2).trans' hg3) X⟩
    · have HRR := Lib.hid (show R = (s, m) by rw [HRs.out, hm]; unfold commitM; rw [if_pos (by rw [← hm]; exact hm0)])
      have hbn2 : (m != 0) = true := by simpa using hm0
      clear hm
      go_wp2_with (first
        | (go_at_call 39; refine HB.out.mono ?_; rintro e w1 ⟨vb, rfl, ⟨A1, n1, c1, rfl, hn1, hr1⟩, hg1⟩)
        | (go_at_call 40; refine (HM.out _ hg1).mono ?_; rintro e w2 ⟨rfl, hg2⟩))
      try go_step3
      exact ⟨rfl, _, _, _, _, _, _, _, _, _, _, _, _, _, _, _, _, _, _, _, _, _, _, _, _, _, _, _, _, _, _, _, (by rw [HRR.out]), X, (by rw [HRR.out]; exact h.gr (hg1.trans' hg2)), Mv.of_gr (hg1.trans' hg2) X⟩
  · rintro a W ⟨u0, u1, u2, u3, u4, u5, u7, u8, u9, u10, u11, u12, u13, u14, u15, u16, u17, u18, u19, u20, u21, u22, u23, u24, u25, u26, u27, u28, u29, u30, u31, rfl, X', ha, hm⟩
    go_wp2
    simp only [Exit.jump]
    go_ret
    exact ⟨rfl, X', ha, hm⟩
end
end Go.Proofs.Ytcfbkhgdlgnmgaa
set_option linter.unusedVariables false
set_option linter.unusedSimpArgs false
set_option maxRecDepth 100000
namespace Go.Proofs.Ytcfbkhgdlgnmgaa
open Go.RowKit Go.Maps Go.Sort Cd
section
variable {X Z : Nat → Prop} {w w' : World} {p : Nat} {s : V} {A : Option Addr} {rs : List FlR}
theorem byteS_small (s : Rs) : 0 ≤ (byteS s).1 ∧ (byteS s).1 < 256 := by
  have h := num_lt (takeS s 1).1
  have h2 : 256 ^ (takeS s 1).1.length ≤ 256 ^ 1 := Nat.pow_le_pow_right (by omega) (takeS_fst_le s 1)
  unfold byteS
  simp only
  omega
theorem textS_small (s : Rs) : (textS s).1.length ≤ 65535 := by
  have h := takeS_fst_le (takeS s 2).2 (num (takeS s 2).1)
  have h2 := num_small s 2 (by omega)
  unfold textS
  omega
set_option maxHeartbeats 1000000 in
theorem cread_any (c : Nat) (bs : Str) (hx : Rd w A (bs.map bv)) (hl : bs.length ≤ 100000000) :
    Calls Try.prog 47 #[.slice A bs.length c] w fun e w' => ∃ A' n' c' rs, e = .returned (.tuple #[.slice A' n' c', .int .i64 (readM bs).2]) ∧ FlO w' (fun i => w.heap.size ≤ i) w.heap.size A' n' c' rs ∧ rs.map FlR.fl = (readM bs).1 ∧ (∀ f ∈ rs, f.q.n ≤ 65535) ∧ Gr w w' := by
  have H0 := Lib.hid (Cd.new_any A c bs w hx (by omega))
  obtain ⟨R, hR⟩ : ∃ R, R = readM bs := ⟨_, rfl⟩
  rw [← hR]
  have HR := Lib.hid hR
  clear hR
  obtain ⟨N0, hN0⟩ : ∃ N : Nat, N = (byteS (bs, 0)).1.toNat := ⟨_, rfl⟩
  have hbsm := byteS_small (bs, 0)
  have hN1 : (byteS (bs, 0)).1 = (N0 : Int) := by omega
  have hN2 : N0 ≤ 255 := by omega
  have H1 := Lib.hid (fun g W (hs : RdrAt W g (bs, 0)) => hN1 ▸ rByte_any g (bs, 0) W hs)
  obtain ⟨s0, hs0⟩ : ∃ s0, s0 = (byteS (bs, 0)).2 := ⟨_, rfl⟩
  rw [← hs0] at H1
  have HR2 := Lib.hid (show R = if endS (readGo N0 s0 []).2 ≠ 0 ∨ mayM (readGo N0 s0 []).1 ≠ 0 then ([], 10) else ((readGo N0 s0 []).1, 0) from by rw [HR.out, hs0, hN0]; rfl)
  clear hbsm hN1 hN0 hs0 HR
  obtain ⟨i0, hi, hz0, hz1, hz2⟩ := info_parts info_cfile
  go_enter Try.func47, Try.ntmps47
  go_wp2_with (first
    | (go_at_call 68; refine H0.out.mono ?_; rintro e w1 ⟨g, rfl, hgl, hr1, hg1⟩)
    | (go_at_call 69; refine (H1.out g _ hr1).mono ?_; rintro e w2 ⟨rfl, hr2, ho2⟩))
  have hg2 : Gr w w2 := Gr.grownBk hg1 ho2 (fun g' e => by injection e with e; omega)
  have hsz2 := Lib.hid (show g < w2.heap.size from by obtain ⟨A, c, h1, _⟩ := hr2; exact h1.lt)
  have hgs2 := Lib.hid hg2.size
  clear hr1 ho2 hg1 H0 H1
  go_loopw [5, 10] (fun t i wr => ∃ j : Nat, j ≤ N0 ∧ i = .int .i64 j ∧ ∃ A' c' rs s', t = .slice A' j c' ∧ Hid (FlO wr (fun i => w.heap.size ≤ i ∧ i ≠ g) w2.heap.size A' j c' rs) ∧ Hid (RdrAt wr g s') ∧ Hid (readGo (N0 - j) s' (rs.map FlR.fl) = readGo N0 s0 []) ∧ Hid (∀ f ∈ rs, f.q.n ≤ 65535) ∧ Hid (w2.heap.size ≤ wr.heap.size) ∧ Gr w wr) (fun _ i _ => N0 - (intOf i).toNat)
  case atStart => exact ⟨0, by omega, rfl, none, 0, [], s0, rfl, Lib.hid (FlO.nil _ _ _), Lib.hid hr2, Lib.hid rfl, Lib.hid (fun f hf => by cases hf), Lib.hid (Nat.le_refl _), hg2⟩
  case round =>
    obtain ⟨j, hj, rfl, A1, c1, rs, s1, rfl, hfl, hrd, hgo, hsm, hszr', hg⟩ := hrel
    have hszr := hszr'.out
    by_cases hlt : j < N0
    · have hT := Lib.hid (fun s W (hs : RdrAt W g s) => rText_any g s W hs)
      have hn1 := textS_small s1
      have hn2 := textS_small (textS s1).2
      have hgo2 : readGo (N0 - (j + 1)) (textS (textS s1).2).2 (rs.map FlR.fl ++ [((textS s1).1, (textS (textS s1).2).1)]) = readGo N0 s0 [] := by
        rw [← hgo.out, show N0 - j = (N0 - (j + 1)) + 1 by omega]
        rfl
      have hT1 := Lib.hid (hT.out s1 wr hrd.out)
      have hT2 := Lib.hid (fun W hs => hT.out (textS s1).2 W hs)
      clear hT hgo
      have hgo3 := Lib.hid hgo2
      clear hgo2
      generalize textS s1 = o1 at *
      obtain ⟨b1, s2⟩ := o1
      simp only at hn1 hn2 hT1 hT2 hgo3
      generalize textS s2 = o2 at *
      obtain ⟨b2, s3⟩ := o2
      simp only at hn2 hT2 hgo3
      have hne : ∀ W s, RdrAt W g s → FlO W (fun i => w.heap.size ≤ i ∧ i ≠ g) w2.heap.size A1 j c1 rs → ∀ g', blkOf A1 = some g' → some g ≠ some g' := fun W s ⟨A, c, hr, _⟩ hf g' hg' e => by
        injection e with e
        subst e
        rcases hf.own.2 with ⟨e1, _⟩ | ⟨g1, rest, e1, _, hr1, _⟩
        · rw [e1] at hg'; cases hg'
        · rw [e1] at hg'
          injection hg' with hg'
          simp only at hg'
          subst hg'
          exact hr.ne hr1 (by decide) rfl
      have hne := Lib.hid hne
      have hgl := Lib.hid hgl
      go_wp2_with (first
        | (go_at_call 70; refine (hT2.out _ hr3.out).mono ?_; rintro e w4 ⟨rfl, hr4, ho4⟩
           have hf4 := hf3.out.keep ho4 (hne.out _ _ hr3.out hf3.out) (fun i hi e => by injection e with e; exact hi.2 e.symm)
           have hg4 : Gr w w4 := Gr.grownBk hg3.out ho4 (fun g' e => by injection e with e; have := hgl.out; omega)
           obtain ⟨c5, w5, hcv, hg5, hr5, hl5, hm5, hz5⟩ := conv_new (P := Try.prog) w4 9 29 5 b2 (by unfold maxLen; omega) Try.underlying9 Try.underlying29 Try.underlying5
           have hrd5 := Lib.hid (show RdrAt w5 g s3 from by obtain ⟨A, c, h1, h2, h3⟩ := hr4; exact ⟨A, c, h1.gr hg5, h2.gr hg5, h3⟩)
           have hw24 : w2.heap.size ≤ w5.heap.size := Nat.le_trans (Nat.le_trans hsz3.out ho4.size) hg5.size
           have hz4 := Lib.hid (show g < w4.heap.size from by obtain ⟨A, c, h1, _⟩ := hr4; exact h1.lt)
           have hf5 := Lib.hid (And.intro (hf4.gr hg5) (And.intro (show Rw.Ok w5 ⟨some ⟨w4.heap.size, 0, none⟩, b2.length, c5, b2⟩ from ⟨Lib.hid rfl, hr5, hl5, hm5⟩) (And.intro hz5 (And.intro (hg4.trans' hg5) (And.intro hg4.size (And.intro (fun g' e => (hf4.own.blk g' e).2) hw24))))))
           clear hf4 hg4 hg5 hr5 hl5 hm5 hz5 hr4 ho4 hf3 hr3 hg3)
        | (go_at_call 70; refine hT1.out.mono ?_; rintro e w3 ⟨rfl, hr3, ho3⟩
           have hf3 := Lib.hid (hfl.out.keep ho3 (hne.out _ _ hrd.out hfl.out) (fun i hi e => by injection e with e; exact hi.2 e.symm))
           have hg3 : Hid (Gr w w3) := Lib.hid (Gr.grownBk hg ho3 (fun g' e => by injection e with e; have := hgl.out; omega))
           have hsz3 := Lib.hid (show w2.heap.size ≤ w3.heap.size from Nat.le_trans hszr ho3.size)
           replace hr3 := Lib.hid hr3
           clear ho3 hT1)
        | (at_builtin; with_reducible refine wpList_append (o := ⟨some 20, _, _, _, _, _⟩) _ rfl _ _ 22 rfl w2.heap.size 31 i0 _ 2 40 Try.underlying22 hi hz0 hz1 hz2 rfl (by omega) A1 j c1 _ rfl (hf5.out.1.own.gr (Gr.alloc1 _ _)) _ 1 1 [encStr b1, .slice (some ⟨w4.heap.size, 0, none⟩) b2.length c5] rfl rfl (Rd.new _ [encStr b1, .slice (some ⟨w4.heap.size, 0, none⟩) b2.length c5] _) (by simp [Value.oneCell']) (by omega) (by unfold maxLen; omega) (Nat.le_trans hf5.out.2.2.2.2.2.2 (Gr.alloc1 _ _).size) ?_
           intro A6 c6 w6 ho6 hk6
           have hq6 := Lib.hid (And.intro ho6 hk6)
           clear ho6 hk6))
      go_roundw
      case rel =>
        obtain ⟨k1, k2, k3, k4, k5, k6, k7⟩ := hf5.out
        obtain ⟨q1, q2⟩ := hq6.out
        have hz4' := hz4.out
        refine ⟨j + 1, by omega, by go_num, A6, c6, rs ++ [⟨b1, ⟨some ⟨w4.heap.size, 0, none⟩, b2.length, c5, b2⟩⟩], s3, rfl, Lib.hid ?_, Lib.hid ?_, Lib.hid ?_, Lib.hid ?_, Lib.hid ?_, ?_⟩
        · exact (k1.gr (Gr.alloc1 _ _)).push (f := ⟨b1, ⟨some ⟨w4.heap.size, 0, none⟩, b2.length, c5, b2⟩⟩) (k2.gr (Gr.alloc1 _ _)) (by show b1.length ≤ maxLen; unfold maxLen; omega)
            (fun _ ad e => by
              simp only [Option.some.injEq] at e
              subst e
              refine ⟨⟨k5, ?_⟩, fun e => ?_, ?_⟩
              · show w4.heap.size ≠ g
                omega
              · have := k6 _ e
                simp only at this
                omega
              · show w4.heap.size < _
                have := (Gr.alloc1 w5 (.cells #[encStr b1, .slice (some ⟨w4.heap.size, 0, none⟩) b2.length c5] 31)).size
                have h2 : w4.heap.size < w5.heap.size := by omega
                exact Nat.lt_of_lt_of_le h2 this) q1 q2
        · obtain ⟨A, c, h1, h2, h3⟩ := hrd5.out
          have hrow := (h1.gr (Gr.alloc1 _ (.cells #[encStr b1, .slice (some ⟨w4.heap.size, 0, none⟩) b2.length c5] 31)))
          have hgb : ∀ g', blkOf A1 = some g' → g < g' := fun g' e => by have := (k1.own.blk g' e).1; have := hsz2.out; omega
          exact ⟨A, c, (q2.grown.block g hrow.lt (fun e => by have := hgb g e.symm; omega)).trans hrow, (h2.gr (Gr.alloc1 _ _)).grown q2.grown (fun h0 ad e e2 => by have := hgb _ e2; have := h3.2.2 ad e; omega), h3⟩
        · rw [List.map_append]
          exact hgo3.out
        · intro f hf
          rcases List.mem_append.1 hf with hf | hf
          · exact hsm.out f hf
          · obtain rfl := List.mem_singleton.1 hf
            exact hn2
        · exact Nat.le_trans (Nat.le_trans k7 (Gr.alloc1 _ _).size) q2.grown.size
        · exact Gr.grownBk (k4.trans' (Gr.alloc1 _ _)) q2.grown (fun g' e => Nat.le_trans hgs2.out (k1.own.blk g' e).1)
      case measure => simp [intOf]; omega
    · obtain rfl : j = N0 := by omega
      obtain ⟨hsz, _⟩ : rs.length = j ∧ True := ⟨hfl.out.len, trivial⟩
      have hgo2 := hgo.out
      rw [Nat.sub_self, show readGo 0 s1 (rs.map FlR.fl) = (rs.map FlR.fl, s1) from rfl] at hgo2
      have hR := HR2.out
      rw [← hgo2] at hR
      have HE := Lib.hid (rEnd_any g s1 wr hrd.out)
      have HM := Lib.hid (hsz ▸ may_any hfl.out.fls c1 (by omega) (by rw [hsz]; exact hfl.out.own.le.1) (fun f hf => by have := hsm.out f hf; omega))
      have hRa : endS s1 ≠ 0 ∨ mayM (rs.map FlR.fl) ≠ 0 → R = ([], 10) := fun h => hR.trans (if_pos h)
      have hRb : endS s1 = 0 → mayM (rs.map FlR.fl) = 0 → R = (rs.map FlR.fl, 0) := fun h1 h2 => hR.trans (if_neg (by rintro (h | h); exact h h1; exact h h2))
      clear hR
      generalize endS s1 = e1 at HE hRa hRb
      generalize mayM (rs.map FlR.fl) = m at HM hRa hRb
      have hfz := Lib.hid (hfl.out)
      clear hgo2 hgo HR2 hrd hfl
      by_cases he : e1 = 0
      · subst he
        by_cases hm : m = 0
        · subst hm
          have HRR := Lib.hid (hRb rfl rfl)
          clear hRa hRb
          go_wp2_with (first
            | (go_at_call 71; refine HE.out.mono ?_; rintro e w7 ⟨rfl, rfl⟩)
            | (go_at_call 40; refine HM.out.mono ?_; rintro e w8 ⟨rfl, hg8⟩))
          go_ret2
          rw [HRR.out]
          exact ⟨A1, j, c1, rs, rfl, ⟨(hfz.out.gr hg8).own.more (fun g' e => Nat.le_trans hgs2.out ((hfz.out.gr hg8).own.blk g' e).1), fun f hf => ⟨((hfz.out.gr hg8).ok f hf).1, ((hfz.out.gr hg8).ok f hf).2.1, fun h0 ad e => ⟨(((hfz.out.gr hg8).ok f hf).2.2 h0 ad e).1.1, (((hfz.out.gr hg8).ok f hf).2.2 h0 ad e).2⟩⟩⟩, rfl, hsm.out, hg.trans' hg8⟩
        · have HRR := Lib.hid (hRa (.inr hm))
          clear hRa hRb
          have hbn : (m != 0) = true := by simpa using hm
          go_wp2_with (first
            | (go_at_call 71; refine HE.out.mono ?_; rintro e w7 ⟨rfl, rfl⟩)
            | (go_at_call 40; refine HM.out.mono ?_; rintro e w8 ⟨rfl, hg8⟩))
          go_ret2
          rw [HRR.out]
          exact ⟨none, 0, 0, [], rfl, FlO.nil _ _ _, rfl, fun f hf => (by cases hf), hg.trans' hg8⟩
      · have HRR := Lib.hid (hRa (.inl he))
        clear hRa hRb
        have hbn : (e1 != 0) = true := by simpa using he
        go_wp2_with (go_at_call 71; refine HE.out.mono ?_; rintro e w7 ⟨rfl, rfl⟩)
        go_ret2
        rw [HRR.out]
        exact ⟨none, 0, 0, [], rfl, FlO.nil _ _ _, rfl, fun f hf => (by cases hf), hg⟩
end
end Go.Proofs.Ytcfbkhgdlgnmgaa
set_option linter.unusedVariables false
set_option linter.unusedSimpArgs false
set_option maxRecDepth 100000
namespace Go.Proofs.Ytcfbkhgdlgnmgaa
open Go.RowKit Go.Maps Go.Sort
section
variable {X Z : Nat → Prop} {w w' : World} {p : Nat} {s : V} {A : Option Addr} {rs : List FlR}
set_option maxHeartbeats 2000000 in
theorem recover_any (h : At w X p s) (hs : Sc s) :
    Calls Try.prog 22 #[.pointer (some ⟨p, 0, none⟩)] w fun e w' => e = .returned (.int .i64 (recoverM s).2) ∧ ∃ X', At w' X' p (recoverM s).1 ∧ Mv w X w' X' := by
  have hsl := hs.sl (s' := s) (by omega) (Nat.le_refl _)
  have HD := Lib.hid (dead_any h)
  obtain ⟨R, hR⟩ : ∃ R, R = recoverM s := ⟨_, rfl⟩
  rw [← hR]
  have HRs := Lib.hid hR
  clear hR
  cases hd : s.dead with
  | true =>
    have hR : R = (s, 15) := by rw [HRs.out]; unfold recoverM; rw [if_pos hd]
    have HRR := Lib.hid hR
    clear hR
    rw [hd] at HD
    go_enter Try.func22, Try.ntmps22
    go_wp2_with (go_at_call 45; refine HD.out.mono ?_; rintro e w1 ⟨rfl, rfl⟩)
    go_ret
    rw [HRR.out]
    exact ⟨rfl, X, h, Mv.rfl' _ _⟩
  | false =>
    rw [hd] at HD
    have HR := Lib.hid (fun W (hg : Gr w W) (m : Str) (hm : m.length ≤ maxLen) => show Calls Try.prog 44 #[.pointer (some ⟨p, 0, none⟩), encStr m] W fun e w' => ∃ A' n' c', e = .returned (.tuple #[.slice A' n' c', .bool (s.now.get m).isSome, .int .i64 0]) ∧ Hid (((s.now.get m).getD []).length = n') ∧ Rd w' A' (((s.now.get m).getD []).map bv) ∧ Gr W w' from by
      refine (read_any (h.gr hg) m hm).mono ?_
      rw [show s.read m = ((s.now.get m).getD [], (s.now.get m).isSome, 0) from by simp [V.read, hd]]
      rintro e w' ⟨A', m', c', rfl, hm', ho, hg⟩
      exact ⟨A', m', c', rfl, Lib.hid hm'.symm, ho.rd, hg⟩)
    have HJ := Lib.hid (fun W hg => HR.out W hg jn (by decide))
    have HM := Lib.hid (fun W hg => HR.out W hg mk (by decide))
    have HAW := Lib.hid (fun W (hg : Gr w W) => away_any (h.gr hg) hsl jn (by decide))
    have hroom := get_room h.1 jn
    unfold mostRoom at hroom
    clear HR
    have hRR : R = match s.now.get mk, s.now.get jn with
      | none, none => (s, 0)
      | none, some _ => awayM s jn
      | some _, none => (s, 10)
      | some _, some b => if (readM b).2 ≠ 0 then (s, (readM b).2) else writeM s (readM b).1 := by
      rw [HRs.out]; unfold recoverM; rw [if_neg (by simp [hd])]; try (cases s.now.get mk <;> cases s.now.get jn <;> rfl)
    cases hm : s.now.get mk with
    | none =>
      cases hj : s.now.get jn with
      | none =>
        rw [hm, hj] at hRR
        rw [hm] at HM
        rw [hj] at HJ
        have HRR := Lib.hid hRR
        clear hRR hm hj
        go_enter Try.func22, Try.ntmps22
        go_wp2_with (first
          | (go_at_call 45; refine HD.out.mono ?_; rintro e w1 ⟨rfl, hw1⟩; subst hw1; clear HD)
          | (go_at_call 44; refine (HJ.out _ hg2.out).mono ?_; rintro e w3 ⟨A3, n3, c3, rfl, hn3, hr3, hg3⟩; replace hg3 := Lib.hid (hg2.out.trans' hg3))
          | (go_at_call 44; refine (HM.out _ (Gr.rfl' _)).mono ?_; rintro e w2 ⟨A2, n2, c2, rfl, hn2, hr2, hg2⟩; replace hg2 := Lib.hid hg2))
        go_ret
        rw [HRR.out]
        exact ⟨rfl, X, h.gr hg3.out, Mv.of_gr hg3.out X⟩
      | some b =>
        rw [hm, hj] at hRR
        rw [hm] at HM
        rw [hj] at HJ
        simp only at hRR
        rw [← hRR] at HAW
        clear hRR hm hj
        go_enter Try.func22, Try.ntmps22
        go_wp2_with (first
          | (go_at_call 45; refine HD.out.mono ?_; rintro e w1 ⟨rfl, hw1⟩; subst hw1; clear HD)
          | (go_at_call 44; refine (HJ.out _ hg2.out).mono ?_; rintro e w3 ⟨A3, n3, c3, rfl, hn3, hr3, hg3⟩; replace hg3 := Lib.hid (hg2.out.trans' hg3))
          | (go_at_call 44; refine (HM.out _ (Gr.rfl' _)).mono ?_; rintro e w2 ⟨A2, n2, c2, rfl, hn2, hr2, hg2⟩; replace hg2 := Lib.hid hg2)
          | (go_at_call 46; refine (HAW.out _ hg3.out).mono ?_; rintro e w4 ⟨rfl, X4, ha4, hm4⟩))
        go_ret
        exact ⟨rfl, X4, ha4, (Mv.of_gr hg3.out X).trans hm4⟩
    | some x =>
      cases hj : s.now.get jn with
      | none =>
        rw [hm, hj] at hRR
        rw [hm] at HM
        rw [hj] at HJ
        have HRR := Lib.hid hRR
        clear hRR hm hj
        go_enter Try.func22, Try.ntmps22
        go_wp2_with (first
          | (go_at_call 45; refine HD.out.mono ?_; rintro e w1 ⟨rfl, hw1⟩; subst hw1; clear HD)
          | (go_at_call 44; refine (HJ.out _ hg2.out).mono ?_; rintro e w3 ⟨A3, n3, c3, rfl, hn3, hr3, hg3⟩; replace hg3 := Lib.hid (hg2.out.trans' hg3))
          | (go_at_call 44; refine (HM.out _ (Gr.rfl' _)).mono ?_; rintro e w2 ⟨A2, n2, c2, rfl, hn2, hr2, hg2⟩; replace hg2 := Lib.hid hg2))
        go_ret
        rw [HRR.out]
        exact ⟨rfl, X, h.gr hg3.out, Mv.of_gr hg3.out X⟩
      | some b =>
        rw [hm, hj] at hRR
        rw [hm] at HM
        rw [hj] at HJ hroom
        simp only [Option.getD_some] at hRR HJ hroom
        have HRD := Lib.hid (fun W A c (hr : Rd W A (b.map bv)) => cread_any (A := A) (w := W) c b hr (by omega))
        have hm8 : (readM b).2 = 0 → (readM b).1.length ≤ 255 := fun e => by
          unfold readM at e ⊢
          simp only at e ⊢
          split at e
          · cases e
          · rename_i hne
            rw [if_neg hne]
            have := mayM_zero (Decidable.of_not_not fun hh => hne (.inr hh))
            simp only
            omega
        have HWr := Lib.hid (fun W (hg : Gr w W) A n c (rs : List FlR) W' (hg' : Gr W W') (hf : FlO W' (fun i => W.heap.size ≤ i) W.heap.size A n c rs) (hl : rs.length ≤ 255) (hb : ∀ f ∈ rs, f.q.n ≤ 65535) => show Calls Try.prog 43 #[.pointer (some ⟨p, 0, none⟩), .slice A n c] W' fun e w' => e = .returned (.int .i64 (writeM s (rs.map FlR.fl)).2) ∧ ∃ X', At w' X' p (writeM s (rs.map FlR.fl)).1 ∧ Mv W' X w' X' from by
          have hln := hf.len
          subst hln
          refine cwrite_any (h.gr (hg.trans' hg')) hs hf.fls (fun i hi => ⟨fun hx => ?_, hi.2⟩) c hl (fun f hf' => by have := hb f hf'; omega)
          have h1 := h.lt i hx
          have h2 := hg.size
          rcases hi.1 with h3 | h3
          · omega
          · have := (hf.own.blk i h3).1
            omega)
        clear HAW hm hj
        generalize readM b = q at hRR hm8 HRD
        obtain ⟨l, e0⟩ := q
        simp only at hRR hm8 HRD
        by_cases he : e0 = 0
        · subst he
          rw [if_neg (by simp)] at hRR
          have HRR := Lib.hid hRR
          clear hRR
          have hm8 := hm8 rfl
          go_enter Try.func22, Try.ntmps22
          go_wp2_with (first
            | (go_at_call 45; refine HD.out.mono ?_; rintro e w1 ⟨rfl, hw1⟩; subst hw1; clear HD)
            | (go_at_call 44; refine (HJ.out _ hg2.out).mono ?_; rintro e w3 ⟨A3, n3, c3, rfl, hn3, hr3, hg3⟩; replace hg3 := Lib.hid (hg2.out.trans' hg3); have hn3' := hn3.out; subst hn3')
            | (go_at_call 44; refine (HM.out _ (Gr.rfl' _)).mono ?_; rintro e w2 ⟨A2, n2, c2, rfl, hn2, hr2, hg2⟩; replace hg2 := Lib.hid hg2)
            | (go_at_call 47; refine (HRD.out _ A3 c3 hr3).mono ?_; rintro e w4 ⟨A4, n4, c4, rs, rfl, hf4, hl4, hb4, hg4⟩; replace hf4 := Lib.hid hf4; replace hl4 := Lib.hid hl4; replace hb4 := Lib.hid hb4; replace hg4 := Lib.hid hg4)
            | (go_at_call 43; refine (HWr.out _ hg3.out _ _ _ rs _ hg4.out hf4.out (by have := congrArg List.length hl4.out; rw [List.length_map] at this; omega) hb4.out).mono ?_; rw [hl4.out, ← HRR.out]; rintro e w5 ⟨rfl, X5, ha5, hm5⟩))
          go_ret
          exact ⟨rfl, X5, ha5, (Mv.of_gr (hg3.out.trans' hg4.out) X).trans hm5⟩
        · rw [if_pos he] at hRR
          have HRR := Lib.hid hRR
          clear hRR
          have hbn : (e0 != 0) = true := by simpa using he
          go_enter Try.func22, Try.ntmps22
          go_wp2_with (first
            | (go_at_call 45; refine HD.out.mono ?_; rintro e w1 ⟨rfl, hw1⟩; subst hw1; clear HD)
            | (go_at_call 44; refine (HJ.out _ hg2.out).mono ?_; rintro e w3 ⟨A3, n3, c3, rfl, hn3, hr3, hg3⟩; replace hg3 := Lib.hid (hg2.out.trans' hg3); have hn3' := hn3.out; subst hn3')
            | (go_at_call 44; refine (HM.out _ (Gr.rfl' _)).mono ?_; rintro e w2 ⟨A2, n2, c2, rfl, hn2, hr2, hg2⟩; replace hg2 := Lib.hid hg2)
            | (go_at_call 47; refine (HRD.out _ A3 c3 hr3).mono ?_; rintro e w4 ⟨A4, n4, c4, rs, rfl, hf4, hl4, hb4, hg4⟩; replace hg4 := Lib.hid hg4))
          go_ret
          rw [HRR.out]
          exact ⟨rfl, X, (h.gr hg3.out).gr hg4.out, Mv.of_gr (hg3.out.trans' hg4.out) X⟩
end
end Go.Proofs.Ytcfbkhgdlgnmgaa
set_option linter.unusedVariables false
set_option linter.unusedSimpArgs false
set_option maxRecDepth 100000
namespace Go.Proofs.Ytcfbkhgdlgnmgaa
open Go.RowKit Go.Maps Go.Sort
theorem FlS.nil (w : World) (Z : Nat → Prop) (A : Option Addr) : FlS w Z A [] := ⟨Rd.nil _ _, fun h => absurd h (by simp), fun f hf => by cases hf⟩
theorem kn_c : commitM (V.new 100) [] = (V.new 100, 1) := by rfl
def kn1 : V := ⟨[(jn, [1])], [], [⟨jn, [1], false⟩], 100, 0, 1, false⟩
theorem kn1_eq : (V.new 100).write jn [1] = (kn1, 0) := by rfl
def kn2 : V := ⟨[], [], [], 100, 0, 3, false⟩
theorem kn2_eq : recoverM kn1 = (kn2, 0) := by rfl
set_option maxHeartbeats 2000000 in
theorem known_any (w : World) : Calls Try.prog 10 #[] w fun e w' => e = .returned (.bool true) ∧ Gr w w' := by
  go_enter Try.func10, Try.ntmps10
  go_wp2_with (first
    | (go_at_call 16; refine (new_any 100 w).mono ?_; rintro e w1 ⟨p, X, rfl, ha, hg, hx⟩
       have hS := Lib.hid (Sv.new ha hg hx)
       have HC := Lib.hid (commit_any (A := none) (rs := []) (Z := fun _ => False) hS.out.at_ ⟨Nat.zero_le _, Nat.zero_le _⟩ (FlS.nil _ _ _) (fun i hi => hi.elim) 0 (by simp) (by simp) (fun f hf => by cases hf))
       rw [List.map_nil, kn_c] at HC
       clear ha hg hx)
    | (go_at_call 19; refine HC.out.mono ?_; rintro e w2 ⟨rfl, X2, ha, hm⟩
       have hS2 := Lib.hid (hS.out.step ha hm)
       have hS3 := Lib.hid (hS2.out.more (Gr.alloc1 w2 (.cells #[.int .u8 1] 5)))
       have HW := Lib.hid (write_any hS3.out.at_ ⟨Nat.zero_le _, Nat.zero_le _⟩ jn (by decide) (some ⟨w2.heap.size, 0, none⟩) 1 1 [1] (Lib.hid rfl) (Rd.of_row' (t := 5) (Row.new w2 5 [.int .u8 1])) (by omega))
       rw [kn1_eq] at HW
       clear ha hm HC hS hS2)
    | (go_at_call 17; refine HW.out.mono ?_; rintro e w4 ⟨rfl, X4, ha, hm⟩
       have hS4 := Lib.hid (hS3.out.step ha hm)
       have HR := Lib.hid (recover_any hS4.out.at_ ⟨by decide, by decide⟩)
       rw [kn2_eq] at HR
       clear HW hS3 ha hm)
    | (go_at_call 22; refine HR.out.mono ?_; rintro e w5 ⟨rfl, X5, ha, hm⟩
       have hS5 := Lib.hid (hS4.out.step ha hm)
       have HN := Lib.hid (names_any hS5.out.at_ ⟨by decide, by decide⟩)
       clear HR hS4 ha hm)
    | (go_at_call 23; refine HN.out.mono ?_; rintro e w6 ⟨A6, n6, c6, rfl, rfl, ho, hg⟩
       have hS6 := Lib.hid (hS5.out.more hg)
       clear HN ho hg hS5))
  go_ret
  exact ⟨rfl, hS6.out.gr⟩
end Go.Proofs.Ytcfbkhgdlgnmgaa
set_option linter.unusedVariables false
set_option linter.unusedSimpArgs false
namespace Go.Proofs.Ytcfbkhgdlgnmgaa
open Go.RowKit Go.ChangeShapes Go.WideShapes Go.ChangeAt Go.Deep
instance : Inhabited FlR := ⟨⟨[], default⟩⟩
section
variable {H : Type} {enc : TypeId × Value → H} {w : World} {a : Option Addr} {len cap : Nat} {d : DataW H} {p : List MemPlace}
theorem rd_lt {A : Option Addr} {xs : List Value} (h : Rd w A xs) (h0 : 0 < xs.length) : ∀ ad, A = some ad → ad.block < w.heap.size := by
  intro ad e
  obtain ⟨ad', e', hc⟩ := h 0 xs[0] (List.getElem?_eq_getElem h0)
  rw [e] at e'
  injection e' with e'
  subst e'
  have := World.block_lt_of_cell? w _ hc
  rwa [block_of_add] at this
set_option maxRecDepth 100000 in
theorem open_file {fuel : Nat} {cs : List Value} {x : DataW H × List MemPlace} (h : DataW.trod enc Try.prog w 0 (fun _ => true) true fuel 31 cs = some x) : ∃ q : FlR, cs = q.cells ∧ q.q.Ok w ∧ q.nm.length ≤ maxLen := by
  have cS : Try.prog.cellsOf 9 = 1 := by kernel_rfl
  have cB : Try.prog.cellsOf 29 = 1 := by kernel_rfl
  have cA : Try.prog.cellsOf 31 = 2 := by kernel_rfl
  obtain ⟨xs, n, _, _, hl, hlen, hf⟩ := DataW.trod_struct Try.underlying31 h
  rw [cA] at hl
  match cs, hl with
  | [c0, c1], _ =>
    match xs, hlen with
    | [y0, y1], _ =>
      have h0 : DataW.trod enc Try.prog w 0 (fun _ => true) true n 9 [c0] = some y0 := by simpa [cS] using hf 0 _ rfl
      have h1 : DataW.trod enc Try.prog w 0 (fun _ => true) true n 29 [c1] = some y1 := by simpa [cB] using hf 1 _ rfl
      obtain ⟨s, e0, _, w0⟩ := DataW.trod_string Try.underlying9 h0
      obtain ⟨q, e1, hq⟩ := open_bytes_cell Try.underlying29 Try.underlying5 (by kernel_rfl) h1
      injection e0 with e0
      subst e0 e1
      exact ⟨⟨s.data.toList, q⟩, by simp [FlR.cells, encStr, Rw.val], hq, by simpa using w0⟩
set_option maxRecDepth 100000 in
theorem open_files (h : DataW.Trod enc Try.prog w 0 (fun _ => true) true 22 (.slice a len cap) d p) :
    ∃ rs : List FlR, Hid (rs.length = len) ∧ FlS w (fun i => i < w.heap.size) a rs ∧ len ≤ cap ∧ cap ≤ maxLen := by
  have cA : Try.prog.cellsOf 31 = 2 := by kernel_rfl
  obtain ⟨fuel, hf⟩ := h
  rcases open_slice Try.underlying22 hf with ⟨hcs, _⟩ | ⟨x, l, c, m, n, D, Pl, hcs, _, hl, hm, hmm, _, hx⟩
  · simp [Value.cells] at hcs
    obtain ⟨rfl, rfl, rfl⟩ := hcs
    exact ⟨[], Lib.hid rfl, ⟨Rd.nil _ _, fun h => absurd h (by simp), fun f hf => by cases hf⟩, Nat.le_refl _, by unfold maxLen; omega⟩
  · simp [Value.cells] at hcs
    obtain ⟨rfl, rfl, rfl⟩ := hcs
    simp only [if_true] at hmm
    subst hmm
    rw [cA] at hx
    obtain ⟨f, hf2⟩ := choose_lt (α := FlR) (n := len) (p := fun i q => w.cells? 0 (x.add (i * 2)) 2 = some q.cells ∧ q.q.Ok w ∧ q.nm.length ≤ maxLen) (fun i hi => by
      obtain ⟨cs', e1, e2⟩ := hx i (by omega)
      obtain ⟨q, e3, hq⟩ := open_file e2
      exact ⟨q, e3 ▸ e1, hq⟩)
    have hrl : ((List.range len).map f).length = len := by simp
    have hrd : Rd w (some x) (((List.range len).map f).flatMap FlR.cells) := by
      intro j u hu
      have hj : j < len * 2 := by
        have := (List.getElem?_eq_some_iff.1 hu).1
        rw [cmf_len, hrl] at this
        exact this
      have hi : j / 2 < len := by omega
      have hk : j % 2 < 2 := Nat.mod_lt _ (by omega)
      have e : j = j / 2 * 2 + j % 2 := by omega
      rw [e, cmf_get _ (by rw [hrl]; exact hi) hk] at hu
      rw [List.getElem_map, List.getElem_range] at hu
      obtain ⟨_, hlen, hc⟩ := World.cells?_some (hf2 _ hi).1
      refine ⟨x, rfl, ?_⟩
      have := hc (j % 2) (by rw [← hlen]; exact (List.getElem?_eq_some_iff.1 hu).1)
      rw [add_of_add, ← e] at this
      exact this.trans hu
    refine ⟨(List.range len).map f, Lib.hid hrl, ⟨hrd, fun h0 ad e => rd_lt hrd (by rw [cmf_len]; omega) ad e, fun q hq => ?_⟩, hl, hm⟩
    obtain ⟨i, hi, rfl⟩ := List.mem_map.1 hq
    obtain ⟨_, h1, h2⟩ := hf2 i (List.mem_range.1 hi)
    exact ⟨h1, h2, fun h0 ad e => rd_lt h1.rd (by rw [List.length_map]; have := h1.len.out; omega) ad e⟩
end
end Go.Proofs.Ytcfbkhgdlgnmgaa
set_option linter.unusedVariables false
set_option linter.unusedSimpArgs false
set_option maxRecDepth 100000
namespace Go.Proofs.Ytcfbkhgdlgnmgaa
open Go.RowKit Go.Maps Go.Sort
attribute [local go_sem] Vc.known_tmp Vc.known_const Vc.known_func Vc.known_global Vc.lk Vc.okUpon Vc.Fact.holds
def strs4 : List Str := [[97], [98], [111], [120]]
def nmA (i : Nat) : Str := strs4.getD i []
def cut60 (q : Rw) : Rw := ⟨q.A, min q.n 60, q.c, q.b.take 60⟩
def goodR (rs : List FlR) (n : Nat) : List FlR := (List.range n).map fun i => ⟨nmA i, cut60 (rs[i]!).q⟩
theorem goodR_len (rs : List FlR) (n : Nat) : (goodR rs n).length = n := by simp [goodR]
theorem goodR_succ (rs : List FlR) {n : Nat} (h : n < rs.length) : goodR rs (n + 1) = goodR rs n ++ [⟨nmA n, cut60 rs[n].q⟩] := by
  unfold goodR
  rw [List.range_succ, List.map_append]
  simp [h]
section
variable {X Z : Nat → Prop} {w w' : World} {A : Option Addr} {rs : List FlR}
def FewM (rs : List FlR) : Prop := (∀ f ∈ rs, f.q.n ≤ 9000 ∧ f.nm.length ≤ 40) ∧ rs.length ≤ 10
instance (rs : List FlR) : Decidable (FewM rs) := by unfold FewM; infer_instance
theorem few_any (h : FlS w Z A rs) (c : Nat) (hl : rs.length ≤ maxLen) :
    Calls Try.prog 11 #[.slice A rs.length c] w fun e w' => e = .returned (.bool (decide (FewM rs))) ∧ w' = w := by
  unfold maxLen at hl
  obtain ⟨R, hR⟩ : ∃ R, R = decide (FewM rs) := ⟨_, rfl⟩
  rw [← hR]
  have HR := Lib.hid hR
  clear hR
  generalize hn : rs.length = n at hl ⊢
  go_enter Try.func11, Try.ntmps11
  go_wp2_with fail
  go_loopw [3] (fun i wr => ∃ j : Nat, j ≤ n ∧ i = .int .i64 j ∧ Hid (∀ i (h : i < rs.length), i < j → rs[i].q.n ≤ 9000 ∧ rs[i].nm.length ≤ 40) ∧ wr = w) (fun i _ => n - (intOf i).toNat)
  case atStart => exact ⟨0, by omega, rfl, Lib.hid (fun i h h' => absurd h' (by omega)), rfl⟩
  case round =>
    obtain ⟨j, hj, rfl, hall, rfl⟩ := hrel
    by_cases hlt : j < n
    · have hjl : j < rs.length := by omega
      obtain ⟨g, off, rfl, x0, x1⟩ := h.at_ hjl
      have hal := Lib.hid (fun (h1 : rs[j].q.n ≤ 9000) (h2 : rs[j].nm.length ≤ 40) => show ∀ i (h : i < rs.length), i < j + 1 → rs[i].q.n ≤ 9000 ∧ rs[i].nm.length ≤ 40 from fun i h h' => by
        by_cases e : i = j
        · subst e; exact ⟨h1, h2⟩
        · exact hall.out i h (by omega))
      have hbad := Lib.hid (fun (h1 : ¬ (rs[j].q.n ≤ 9000 ∧ rs[j].nm.length ≤ 40)) => show R = false from by
        rw [HR.out]
        exact decide_eq_false fun hf => h1 (hf.1 _ (List.getElem_mem hjl)))
      have hlec := (h.ok _ (List.getElem_mem hjl)).1.le
      have hnl := (h.ok _ (List.getElem_mem hjl)).2.1
      unfold maxLen at hnl
      generalize rs[j].q.n = qn at *
      generalize rs[j].q.A = qA at *
      generalize rs[j].q.c = qc at *
      generalize rs[j].nm = nm at *
      by_cases h1 : 9000 < qn
      · go_wp2
        go_ret
        rw [hbad.out (by omega)]
        exact ⟨rfl, rfl⟩
      · by_cases h2 : 40 < nm.length
        · go_wp2
          go_ret
          rw [hbad.out (by omega)]
          exact ⟨rfl, rfl⟩
        · have h3 := Lib.hid (hal.out (by omega) (by omega))
          go_wp2
          go_roundw
          case rel => exact ⟨j + 1, by omega, by go_num, h3, trivial⟩
          case measure => simp [intOf]; omega
    · obtain rfl : j = n := by omega
      by_cases h10 : j ≤ 10
      · have hRt := Lib.hid (show R = true from by
          rw [HR.out]
          exact decide_eq_true ⟨fun f hf => by obtain ⟨i, hi, rfl⟩ := List.getElem_of_mem hf; exact hall.out i hi (by omega), by omega⟩)
        go_wp2
        go_ret
        rw [hRt.out]
        refine ⟨?_, rfl⟩
        simp
        omega
      · have hRt := Lib.hid (show R = false from by
          rw [HR.out]
          exact decide_eq_false fun hf => h10 (by have := hf.2; omega))
        go_wp2
        go_ret
        rw [hRt.out]
        refine ⟨?_, rfl⟩
        simp
        omega
theorem row4_at (i : Nat) (h : i < 4) : (strs4.map encStr)[i]? = some (encStr (nmA i)) := by
  rw [List.getElem?_map]
  unfold nmA strs4
  rcases i with _ | _ | _ | _ | i <;> first | rfl | omega
set_option maxHeartbeats 1000000 in
theorem good_any (h : FlS w Z A rs) (hz : ∀ i, Z i → i < w.heap.size) (c : Nat) (k : Nat) (hk : k ≤ 4) (hl : rs.length ≤ maxLen) :
    Calls Try.prog 12 #[.slice A rs.length c, .int .i64 k] w fun e w' => ∃ A' c', e = .returned (.slice A' (min rs.length k) c') ∧ FlO w' Z w.heap.size A' (min rs.length k) c' (goodR rs (min rs.length k)) ∧ Gr w w' := by
  unfold maxLen at hl
  obtain ⟨i0, hi, hz0, hz1, hz2⟩ := info_parts info_cfile
  generalize hn : rs.length = n at hl ⊢
  go_enter Try.func12, Try.ntmps12
  go_wp2_with fail
  go_loopw [5, 6] (fun t i wr => ∃ j : Nat, j ≤ min n k ∧ i = .int .i64 j ∧ ∃ A' c', t = .slice A' j c' ∧ Hid (FlO wr Z w.heap.size A' j c' (goodR rs j)) ∧ Gr w wr) (fun _ i _ => min n k - (intOf i).toNat)
  case atStart => exact ⟨0, by omega, rfl, none, 0, rfl, Lib.hid (FlO.nil _ _ _), Gr.rfl' _⟩
  case round =>
    obtain ⟨j, hj, rfl, A1, c1, rfl, hfl, hg⟩ := hrel
    by_cases hlt : j < min n k
    · have hjl : j < rs.length := by omega
      have hjn : j < n := by omega
      have hjk : j < k := by omega
      have hj4 : j < 4 := by omega
      have hgs := Lib.hid (goodR_succ rs hjl)
      obtain ⟨g, off, rfl, x0, x1⟩ := (h.gr hg).at_ hjl
      have hq := ((h.gr hg).ok _ (List.getElem_mem hjl)).1
      have hqz := ((h.gr hg).ok _ (List.getElem_mem hjl)).2.2
      have hle := hq.le
      have hlec := hq.lec
      unfold maxLen at hlec
      have hrow4 := Lib.hid (row4_at j hj4)
      have hq1 : Hid (Rw.Ok wr (cut60 rs[j].q)) := Lib.hid ⟨Lib.hid (by have := hq.len.out; show (List.take 60 _).length = min _ 60; rw [List.length_take]; omega), by have := hq.rd.take 60; rw [← List.map_take] at this; exact this, Nat.le_trans (Nat.min_le_left _ _) hq.le, hq.lec⟩
      have hqz2 := Lib.hid (show 0 < (cut60 rs[j].q).n → ∀ ad, (cut60 rs[j].q).A = some ad → Z ad.block from fun h0 ad e => hqz (by have : 0 < min rs[j].q.n 60 := h0; omega) ad e)
      obtain ⟨f, hf⟩ : ∃ f : FlR, f = ⟨nmA j, cut60 rs[j].q⟩ := ⟨_, rfl⟩
      have hfc : f.cells = [encStr (nmA j), .slice rs[j].q.A (min rs[j].q.n 60) rs[j].q.c] := by rw [hf]; rfl
      rw [← hf] at hgs
      have hfp := Lib.hid (show f.q.Ok wr ∧ f.nm.length ≤ maxLen ∧ (0 < f.q.n → ∀ ad, f.q.A = some ad → Z ad.block) from by
        rw [hf]
        refine ⟨hq1.out, ?_, hqz2.out⟩
        show (nmA j).length ≤ maxLen
        unfold nmA strs4 maxLen
        rcases j with _ | _ | _ | _ | j <;> simp <;> omega)
      have hfc := Lib.hid hfc
      clear hf hq hqz hq1 hqz2
      generalize rs[j].q.n = qn at *
      generalize rs[j].q.A = qA at *
      generalize rs[j].q.c = qc at *
      have hmod : Int.tmod (j : Int) 4 = (j : Int) := Int.tmod_eq_of_lt (by omega) (by omega)
      obtain ⟨m, hm⟩ : ∃ m, m = min qn 60 := ⟨_, rfl⟩
      have hmin : min (qn : Int) 60 = (m : Int) := by omega
      have hmc : m ≤ qc := by omega
      have hfc := Lib.hid (hm ▸ hfc.out)
      clear hm
      go_wp2_with fail
      have HX := Lib.hid (fun W (hW : Gr wr W) => (hW.cell x1 : W.cell? ⟨g, off + j * 2 + 1, none⟩ = some (.slice qA qn qc)))
      clear x0 x1
      refine Vc.wp_region_split ⟨Gr, fun _ => Gr, fun _ W => Gr wr W, []⟩ 21 [] (by kernel_rfl) (by kernel_rfl) (by kernel_rfl) (by decide) (by simp) (by simp) (by simp) (fun _ _ h => h.size) (fun _ _ _ h => h.size) (fun _ _ _ h h' => h'.trans' h) (Gr.draw _) ?_
      repeat
        refine Vc.Walk.pure (v := ?_) (fun _ => Gr.rfl' _) rfl (by first | exact Vc.GuardYes.no rfl | exact Vc.GuardYes.yes rfl rfl) rfl rfl ?_ ?_
        rotate_left
        · intro _ W hI
          (clear hI)
          go_simp
          exact rfl
      refine Vc.Walk.call (.fits (Vc.All fun v W => ∃ g, v = .slice (some ⟨g, 0, none⟩) 4 4 ∧ Row W g 9 (strs4.map encStr))) (Vc.All.stable (fun u W W' hl hf => by obtain ⟨g, e, hR⟩ := hf; exact ⟨g, e, hR.gr hl⟩) (fun _ u W W' _ hl hf => by obtain ⟨g, e, hR⟩ := hf; exact ⟨g, e, hR.gr hl⟩)) (.no rfl) rfl rfl ?_ ?_
      · intro k W hI
        clear hI
        go_simp
        exact ⟨⟨_, rfl, Row.new W _ (strs4.map encStr)⟩, Gr.alloc1 _ _⟩
      repeat
        refine Vc.Walk.pure (v := ?_) (fun _ => Gr.rfl' _) rfl (by first | exact Vc.GuardYes.no rfl | exact Vc.GuardYes.yes rfl rfl) rfl rfl ?_ ?_
        rotate_left
        · intro _ W hI
          (clear hI)
          go_simp
          exact rfl
      refine Vc.Walk.any (.fits (Vc.All fun v W => ∃ g, v = .pointer (some ⟨g, j, none⟩) ∧ Row W g 9 (strs4.map encStr))) (Vc.All.stable (fun u W W' hl hf => by obtain ⟨g, e, hR⟩ := hf; exact ⟨g, e, hR.gr hl⟩) (fun _ u W W' _ hl hf => by obtain ⟨g, e, hR⟩ := hf; exact ⟨g, e, hR.gr hl⟩)) (.no rfl) ?_ ?_
      · intro ρ k W hI hf
        obtain ⟨⟨g, hρ1, hR⟩, hρ2, _⟩ := hf
        have e1 : ρ (.tmp 19) = .slice (some ⟨g, 0, none⟩) 4 4 := hρ1
        have e2 : ρ (.tmp 21) = .int .i64 j := hρ2
        have h5 : (j : Int) < 4 := by omega
        clear hI hρ1 hρ2
        go_simp
        exact ⟨⟨_, rfl, hR⟩, Gr.rfl' _⟩
      refine Vc.Walk.any (.is (encStr (nmA j))) trivial (.no rfl) ?_ ?_
      · intro ρ k W hI hf
        obtain ⟨⟨g, hρ1, hR⟩, _⟩ := hf
        have e1 : ρ (.tmp 22) = .pointer (some ⟨g, j, none⟩) := hρ1
        have hcell : W.cell? ⟨g, j, none⟩ = some (encStr (nmA j)) := (hR.cell j).trans hrow4.out
        clear hI hρ1
        go_simp
        first | exact ⟨rfl, Gr.rfl' _⟩ | exact Gr.rfl' _
      repeat
        refine Vc.Walk.pure (v := ?_) (fun _ => Gr.rfl' _) rfl (by first | exact Vc.GuardYes.no rfl | exact Vc.GuardYes.yes rfl rfl) rfl rfl ?_ ?_
        rotate_left
        · intro _ W hI
          (have y1 := HX.out _ hI.g; clear hI)
          go_simp
          exact rfl
      refine Vc.Walk.call (.fits (Vc.All fun v W => ∃ g, v = .slice (some ⟨g, 0, none⟩) 1 1 ∧ Row W g 31 [encStr (nmA j), .slice qA m qc])) (Vc.All.stable (fun u W W' hl hf => by obtain ⟨g, e, hR⟩ := hf; exact ⟨g, e, hR.gr hl⟩) (fun _ u W W' _ hl hf => by obtain ⟨g, e, hR⟩ := hf; exact ⟨g, e, hR.gr hl⟩)) (.no rfl) rfl rfl ?_ ?_
      · intro k W hI
        clear hI
        go_simp
        exact ⟨⟨_, rfl, Row.new W _ [encStr (nmA j), .slice qA m qc]⟩, Gr.alloc1 _ _⟩
      intro W hW
      have hW : Gr wr W := hW
      simp only [List.reverse_cons, List.reverse_nil, List.nil_append, List.cons_append, Vc.finish, Act.put, List.setIfInBounds_toArray, List.set_cons_zero, List.set_cons_succ]
      rintro u19 _ u22 _ u38 ⟨g38, rfl, hR38⟩ _
      simp only [List.drop_succ_cons, List.drop_zero]
      have hown := Lib.hid (hfl.out.gr hW)
      have hsz := Nat.le_trans hg.size hW.size
      have hR38 := Lib.hid hR38
      go_wp2_with (at_builtin; with_reducible refine wpList_append (o := ⟨some 39, _, _, _, _, _⟩) _ rfl _ _ 22 rfl w.heap.size 31 i0 _ 2 40 Try.underlying22 hi hz0 hz1 hz2 rfl (by omega) A1 j c1 _ rfl hown.out.own _ 1 1 [encStr (nmA j), .slice qA m qc] rfl rfl (Rd.of_row' hR38.out) (by simp [Value.oneCell']) (by omega) (by unfold maxLen; omega) hsz ?_
                   intro A6 c6 w6 ho6 hk6
                   have hq6 := Lib.hid (And.intro ho6 hk6)
                   clear ho6 hk6)
      go_roundw
      case rel =>
        obtain ⟨q1, q2⟩ := hq6.out
        obtain ⟨p1, p2, p3⟩ := hfp.out
        refine ⟨j + 1, by omega, by go_num, A6, c6, rfl, Lib.hid ?_, Gr.grownBk (hg.trans' hW) q2.grown (fun g' e => (hown.out.own.blk g' e).1)⟩
        rw [hgs.out]
        exact hown.out.push (p1.gr hW) p2 (fun h0 ad e => ⟨p3 h0 ad e, fun e2 => by have := (hown.out.own.blk _ e2).1; have := hz _ (p3 h0 ad e); omega, by have := hz _ (p3 h0 ad e); omega⟩) (by rw [hfc.out]; exact q1) q2
      case measure => simp [intOf]; omega
    · obtain rfl : j = min n k := by omega
      have hfz := Lib.hid hfl.out
      clear hfl
      generalize hnk : min n k = m at *
      by_cases hmn : m < n
      · have hmk : ¬ ((m : Int) < k) := by omega
        go_wp2
        go_ret
        try rw [hnk]
        exact ⟨A1, c1, rfl, hfz.out, hg⟩
      · obtain rfl : m = n := by omega
        go_wp2
        go_ret
        try rw [hnk]
        exact ⟨A1, c1, rfl, hfz.out, hg⟩
end
end Go.Proofs.Ytcfbkhgdlgnmgaa
set_option linter.unusedVariables false
set_option linter.unusedSimpArgs false
set_option maxRecDepth 100000
namespace Go.Proofs.Ytcfbkhgdlgnmgaa
open Go.RowKit Go.Maps Go.Sort
attribute [local go_sem] Vc.known_tmp Vc.known_const Vc.known_func Vc.known_global Vc.lk Vc.okUpon Vc.Fact.holds
def wantA (o n : List Fl) (i : Nat) : Str := if i < n.length then (n.getD i default).2 else (o.getD i default).2
def IsM (F : Files) (o n : List Fl) : Prop :=
  (∀ i, i < o.length → F.get (o.getD i default).1 = some (wantA o n i)) ∧ (∀ i, o.length ≤ i → i < n.length → F.get (n.getD i default).1 = some (n.getD i default).2) ∧ F.length = n.length + (o.length - n.length)
section
variable {X Z Z2 : Nat → Prop} {w w' : World} {p : Nat} {s : V} {A B : Option Addr} {rs ts : List FlR}
theorem getD_fl (rs : List FlR) {i : Nat} (h : i < rs.length) : (rs.map FlR.fl).getD i default = (rs[i].nm, rs[i].q.b) := by
  rw [List.getD_eq_getElem?_getD, List.getElem?_map, List.getElem?_eq_getElem h]
  rfl
set_option maxHeartbeats 4000000 in
theorem is_any (h : At w X p s) (hs : Sm s) (hd : s.dead = false) (hf : FlS w Z A rs) (hf2 : FlS w Z2 B ts) (c c2 : Nat) (hl : rs.length ≤ 255) (hl2 : ts.length ≤ 255) :
    Calls Try.prog 20 #[.pointer (some ⟨p, 0, none⟩), .slice A rs.length c, .slice B ts.length c2] w fun e w' => ∃ b : Bool, e = .returned (.bool b) ∧ (b = true ↔ IsM s.now (rs.map FlR.fl) (ts.map FlR.fl)) ∧ Gr w w' := by
  obtain ⟨R, hR⟩ : ∃ R : Bool, (R = true ↔ IsM s.now (rs.map FlR.fl) (ts.map FlR.fl)) := by
    rcases Classical.em (IsM s.now (rs.map FlR.fl) (ts.map FlR.fl)) with h1 | h1
    · exact ⟨true, by simp [h1]⟩
    · exact ⟨false, by simp [h1]⟩
  refine Calls.mono (R := fun e w' => e = .returned (.bool R) ∧ Gr w w') ?_ (fun e w' h => ⟨R, h.1, hR, h.2⟩)
  have hok := h.1
  have HN := Lib.hid (fun W (hg : Gr w W) => names_any (h.gr hg) hs)
  have hnl : s.now.length ≤ 1000000 := Nat.le_trans hok.nowL hs.ops
  obtain ⟨F, hF⟩ : ∃ F, F = s.now := ⟨_, rfl⟩
  have HRd := Lib.hid (fun W (hg : Gr w W) (m : Str) (hm : m.length ≤ maxLen) (x : Str) (hx : F.get m = some x) => show Calls Try.prog 44 #[.pointer (some ⟨p, 0, none⟩), encStr m] W fun e w' => ∃ A' c', e = .returned (.tuple #[.slice A' x.length c', .bool true, .int .i64 0]) ∧ Rd w' A' (x.map bv) ∧ Gr W w' from by
    refine (read_any (h.gr hg) m hm).mono ?_
    rw [show s.read m = (x, true, 0) from by simp [V.read, hd, ← hF, hx]]
    rintro e w' ⟨A', m', c', rfl, hm', ho, hg⟩
    simp only at hm'
    subst hm'
    exact ⟨A', c', rfl, ho.rd, hg⟩)
  have HRn := Lib.hid (fun W (hg : Gr w W) (m : Str) (hm : m.length ≤ maxLen) (hx : F.get m = none) => show Calls Try.prog 44 #[.pointer (some ⟨p, 0, none⟩), encStr m] W fun e w' => ∃ A' n' c', e = .returned (.tuple #[.slice A' n' c', .bool false, .int .i64 0]) ∧ Hid (n' = 0) ∧ Rd w' A' [] ∧ Gr W w' from by
    refine (read_any (h.gr hg) m hm).mono ?_
    rw [show s.read m = ([], false, 0) from by simp [V.read, hd, ← hF, hx]]
    rintro e w' ⟨A', m', c', rfl, hm', ho, hg⟩
    exact ⟨A', m', c', rfl, Lib.hid hm', ho.rd, hg⟩)
  have hR2 : R = true ↔ (∀ i, (hi : i < rs.length) → F.get rs[i].nm = some (if h2 : i < ts.length then ts[i].q.b else rs[i].q.b)) ∧ (∀ i, (hi : i < ts.length) → rs.length ≤ i → F.get ts[i].nm = some ts[i].q.b) ∧ F.length = ts.length + (rs.length - ts.length) := by
    rw [hR, ← hF]
    unfold IsM wantA
    simp only [List.length_map]
    refine and_congr ?_ (and_congr ?_ Iff.rfl)
    · refine forall_congr' fun i => forall_congr' fun hi => ?_
      rw [getD_fl rs hi]
      by_cases h2 : i < ts.length
      · rw [if_pos h2, dif_pos h2, getD_fl ts h2]
      · rw [if_neg h2, dif_neg h2]
    · constructor
      · intro hh i hi hl
        have := hh i hl hi
        rw [getD_fl ts hi] at this
        exact this
      · intro hh i hl hi
        rw [getD_fl ts hi]
        exact hh i hi hl
  rw [← hF] at hnl HN
  have HR2 := Lib.hid hR2
  clear hR2 hR hF hok hs hd
  generalize hn : rs.length = n at hl ⊢
  generalize hk : ts.length = k at hl2 ⊢
  go_enter Try.func20, Try.ntmps20
  go_wp2_with fail
  go_loopw [7, 8] (fun t i wr => ∃ j : Nat, j ≤ n ∧ i = .int .i64 j ∧ t = .int .i64 ((k + (j - k) : Nat) : Int) ∧ Hid (∀ i, (hi : i < rs.length) → i < j → F.get rs[i].nm = some (if h2 : i < ts.length then ts[i].q.b else rs[i].q.b)) ∧ Gr w wr) (fun _ i _ => n - (intOf i).toNat)
  case atStart => exact ⟨0, by omega, rfl, by simp, Lib.hid (fun i h h' => absurd h' (by omega)), Gr.rfl' _⟩
  case round =>
    obtain ⟨j, hj, rfl, rfl, hall, hg⟩ := hrel
    by_cases hlt : j < n
    · have hjl : j < rs.length := by omega
      obtain ⟨g, off, rfl, x0, x1⟩ := (hf.gr hg).at_ hjl
      have hqq := Lib.hid (fun W (hW : Gr wr W) => ((hf.gr hg).gr hW).ok _ (List.getElem_mem hjl))
      have hlen1 := (hf.ok _ (List.getElem_mem hjl)).1.len.out
      have hnm := (hf.ok _ (List.getElem_mem hjl)).2.1
      have hgood := Lib.hid (fun (h1 : F.get rs[j].nm = some (if h2 : j < ts.length then ts[j].q.b else rs[j].q.b)) => show ∀ i, (hi : i < rs.length) → i < j + 1 → F.get rs[i].nm = some (if h2 : i < ts.length then ts[i].q.b else rs[i].q.b) from fun i h h' => by
        by_cases e : i = j
        · subst e; exact h1
        · exact hall.out i h (by omega))
      have hbad := Lib.hid (fun (h1 : F.get rs[j].nm ≠ some (if h2 : j < ts.length then ts[j].q.b else rs[j].q.b)) => show R = false from by
        cases hb : R
        · rfl
        · exact absurd ((HR2.out.1 hb).1 j hjl) h1)
      have HC1 := Lib.hid (fun W (hW : Gr wr W) => run_str (P := Try.prog) (hqq.out W hW).1.rd 29 9 5 rs[j].q.n rs[j].q.c hlen1.symm Try.underlying29 Try.underlying5 Try.underlying9)
      obtain ⟨W0, hW0⟩ : ∃ W0 : Str, W0 = rs[j].q.b := ⟨_, rfl⟩
      by_cases hjk : j < k
      · have hjt : j < ts.length := by omega
        obtain ⟨g2, off2, rfl, z0, z1⟩ := (hf2.gr hg).at_ hjt
        have hqq2 := Lib.hid (fun W (hW : Gr wr W) => ((hf2.gr hg).gr hW).ok _ (List.getElem_mem hjt))
        have hlen2 := (hf2.ok _ (List.getElem_mem hjt)).1.len.out
        have HC2 := Lib.hid (fun W (hW : Gr wr W) => run_str (P := Try.prog) (hqq2.out W hW).1.rd 29 9 5 ts[j].q.n ts[j].q.c hlen2.symm Try.underlying29 Try.underlying5 Try.underlying9)
        rw [dif_pos hjt] at hgood hbad
        rw [← hW0] at HC1
        have hlt2 : (j : Int) < k := by omega
        clear hqq hqq2 hlen1 hlen2 hW0
        generalize rs[j].nm = nm at *
        generalize rs[j].q = q at *
        generalize ts[j].q = q2 at *
        obtain ⟨qA, qn, qc, qb⟩ := q
        obtain ⟨qA2, qn2, qc2, qb2⟩ := q2
        simp only at *
        cases hget : F.get nm with
        | none =>
          have hRf := Lib.hid (hbad.out (by rw [hget]; simp))
          go_wp2_with (go_at_call 44; refine (HRn.out _ hg nm hnm hget).mono ?_; rintro e w2 ⟨A', n', c', rfl, hn', hr', hg2⟩; have hcv1 := HC1.out _ hg2; have hcv2 := HC2.out _ hg2; have y1 := hg2.cell x1; have y3 := hg2.cell z1)
          go_ret
          rw [hRf.out]
          exact ⟨rfl, hg.trans' hg2⟩
        | some x =>
          by_cases hxy : x = qb2
          · have hg3 := Lib.hid (hgood.out (by rw [hget, hxy]))
            subst hxy
            go_wp2_with (go_at_call 44; refine (HRd.out _ hg nm hnm x hget).mono ?_; rintro e w2 ⟨A', c', rfl, hr', hg2⟩; have hcv1 := HC1.out _ hg2; have hcv2 := HC2.out _ hg2; have y1 := hg2.cell x1; have y3 := hg2.cell z1; have hcv3 := run_str (P := Try.prog) hr' 29 9 5 x.length c' rfl Try.underlying29 Try.underlying5 Try.underlying9)
            go_roundw
            case rel => exact ⟨j + 1, by omega, by go_num, (by first | (congr 1; omega) | (unfold wrap64; congr 1; omega)), hg3, hg.trans' hg2⟩
            case measure => simp [intOf]; omega
          · have hRf := Lib.hid (hbad.out (by rw [hget]; intro e; exact hxy (Option.some.inj e)))
            have hxb : (x == qb2) = false := by simpa using hxy
            go_wp2_with (go_at_call 44; refine (HRd.out _ hg nm hnm x hget).mono ?_; rintro e w2 ⟨A', c', rfl, hr', hg2⟩; have hcv1 := HC1.out _ hg2; have hcv2 := HC2.out _ hg2; have y1 := hg2.cell x1; have y3 := hg2.cell z1; have hcv3 := run_str (P := Try.prog) hr' 29 9 5 x.length c' rfl Try.underlying29 Try.underlying5 Try.underlying9)
            go_ret
            rw [hRf.out]
            exact ⟨rfl, hg.trans' hg2⟩
      · rw [dif_neg (by omega)] at hgood hbad
        have hlt2 : ¬ ((j : Int) < k) := by omega
        rw [← hW0] at HC1 hgood hbad
        clear hqq hlen1 hW0
        generalize rs[j].nm = nm at *
        generalize rs[j].q = q at *
        obtain ⟨qA, qn, qc, qb⟩ := q
        simp only at *
        cases hget : F.get nm with
        | none =>
          have hRf := Lib.hid (hbad.out (by rw [hget]; simp))
          go_wp2_with (go_at_call 44; refine (HRn.out _ hg nm hnm hget).mono ?_; rintro e w2 ⟨A', n', c', rfl, hn', hr', hg2⟩; have hcv1 := HC1.out _ hg2; have hcv2 := trivial; have y1 := hg2.cell x1)
          go_ret
          rw [hRf.out]
          exact ⟨rfl, hg.trans' hg2⟩
        | some x =>
          by_cases hxy : x = W0
          · have hg3 := Lib.hid (hgood.out (by rw [hget, hxy]))
            subst hxy
            go_wp2_with (go_at_call 44; refine (HRd.out _ hg nm hnm x hget).mono ?_; rintro e w2 ⟨A', c', rfl, hr', hg2⟩; have hcv1 := HC1.out _ hg2; have hcv2 := trivial; have y1 := hg2.cell x1; have hcv3 := run_str (P := Try.prog) hr' 29 9 5 x.length c' rfl Try.underlying29 Try.underlying5 Try.underlying9)
            go_roundw
            case rel => exact ⟨j + 1, by omega, by go_num, (by first | (congr 1; omega) | (unfold wrap64; congr 1; omega)), hg3, hg.trans' hg2⟩
            case measure => simp [intOf]; omega
          · have hRf := Lib.hid (hbad.out (by rw [hget]; intro e; exact hxy (Option.some.inj e)))
            have hxb : (x == W0) = false := by simpa using hxy
            go_wp2_with (go_at_call 44; refine (HRd.out _ hg nm hnm x hget).mono ?_; rintro e w2 ⟨A', c', rfl, hr', hg2⟩; have hcv1 := HC1.out _ hg2; have hcv2 := trivial; have y1 := hg2.cell x1; have hcv3 := run_str (P := Try.prog) hr' 29 9 5 x.length c' rfl Try.underlying29 Try.underlying5 Try.underlying9)
            go_ret
            rw [hRf.out]
            exact ⟨rfl, hg.trans' hg2⟩
    · obtain rfl : j = n := by omega
      have hall2 := Lib.hid hall.out
      clear hall
      go_wp2_with fail
      go_loopw [13] (fun i wr2 => ∃ l : Nat, j ≤ l ∧ (l ≤ k ∨ l = j) ∧ i = .int .i64 l ∧ Hid (∀ i, (hi : i < ts.length) → j ≤ i → i < l → F.get ts[i].nm = some ts[i].q.b) ∧ Gr w wr2) (fun i _ => k - (intOf i).toNat)
      case atStart => exact ⟨j, by omega, .inr rfl, rfl, Lib.hid (fun i h h1 h2 => absurd h1 (by omega)), hg⟩
      case round =>
        obtain ⟨l, hjl, hlk, rfl, hal3, hg⟩ := hrel
        by_cases hlt : l < k
        · have hlt2 : (l : Int) < k := by omega
          have hll : l < ts.length := by omega
          obtain ⟨g, off, rfl, x0, x1⟩ := (hf2.gr hg).at_ hll
          have hqq := Lib.hid (fun W (hW : Gr wr W) => ((hf2.gr hg).gr hW).ok _ (List.getElem_mem hll))
          have hlen1 := (hf2.ok _ (List.getElem_mem hll)).1.len.out
          have hnm := (hf2.ok _ (List.getElem_mem hll)).2.1
          have hgood := Lib.hid (fun (h1 : F.get ts[l].nm = some ts[l].q.b) => show ∀ i, (hi : i < ts.length) → j ≤ i → i < l + 1 → F.get ts[i].nm = some ts[i].q.b from fun i h h' h'' => by
            by_cases e : i = l
            · subst e; exact h1
            · exact hal3.out i h h' (by omega))
          have hbad := Lib.hid (fun (h1 : F.get ts[l].nm ≠ some ts[l].q.b) => show R = false from by
            cases hb : R
            · rfl
            · exact absurd ((HR2.out.1 hb).2.1 l hll (by omega)) h1)
          have HC1 := Lib.hid (fun W (hW : Gr wr W) => run_str (P := Try.prog) (hqq.out W hW).1.rd 29 9 5 ts[l].q.n ts[l].q.c hlen1.symm Try.underlying29 Try.underlying5 Try.underlying9)
          clear hqq hlen1
          generalize ts[l].nm = nm at *
          generalize ts[l].q = q at *
          obtain ⟨qA, qn, qc, qb⟩ := q
          simp only at *
          cases hget : F.get nm with
          | none =>
            have hRf := Lib.hid (hbad.out (by rw [hget]; simp))
            go_wp2_with (go_at_call 44; refine (HRn.out _ hg nm hnm hget).mono ?_; rintro e w2 ⟨A', n', c', rfl, hn', hr', hg2⟩; have hcv1 := HC1.out _ hg2; have y1 := hg2.cell x1)
            go_quiet (fail)
            go_wp2
            go_ret
            rw [hRf.out]
            exact ⟨rfl, hg.trans' (hg2.trans' (Gr.drawN _ _))⟩
          | some x =>
            by_cases hxy : x = qb
            · have hg3 := Lib.hid (hgood.out (by rw [hget, hxy]))
              subst hxy
              go_wp2_with (go_at_call 44; refine (HRd.out _ hg nm hnm x hget).mono ?_; rintro e w2 ⟨A', c', rfl, hr', hg2⟩; have y1 := hg2.cell x1)
              replace hr' := Lib.hid hr'
              replace y1 := Lib.hid y1
              refine Vc.wp_region_facts ⟨Gr, fun _ => Gr, fun _ W => Gr w2 W, []⟩ (by kernel_rfl) (by kernel_rfl) (fun _ _ _ h h' => h'.trans' h) (Gr.draw _) ?_
              repeat
                refine Vc.Walk.pure (v := ?_) (fun _ => Gr.rfl' _) rfl (by first | exact Vc.GuardYes.no rfl | exact Vc.GuardYes.yes rfl rfl) rfl rfl ?_ ?_
                rotate_left
                · intro _ W hI
                  (have y2 := hI.g.cell y1.out; have hcv1 := HC1.out _ (hg2.trans' hI.g); have hcv3 := run_str (P := Try.prog) (hr'.out.gr hI.g) 29 9 5 x.length c' rfl Try.underlying29 Try.underlying5 Try.underlying9; clear hI)
                  go_simp
                  exact rfl
              intro W hW
              have hW : Gr w2 W := hW
              simp only [List.reverse_cons, List.reverse_nil, List.nil_append, List.cons_append, Vc.finish, Act.put, List.setIfInBounds_toArray, List.set_cons_zero, List.set_cons_succ]
              go_wp2
              go_roundw
              case rel => exact ⟨l + 1, by omega, .inl (by omega), by go_num, Lib.hid (fun i hi => hg3.out i (by omega)), hg.trans' (hg2.trans' hW)⟩
              case measure => simp [intOf]; omega
            · have hRf := Lib.hid (hbad.out (by rw [hget]; intro e; exact hxy (Option.some.inj e)))
              have hxb : (x == qb) = false := by simpa using hxy
              go_wp2_with (go_at_call 44; refine (HRd.out _ hg nm hnm x hget).mono ?_; rintro e w2 ⟨A', c', rfl, hr', hg2⟩; have y1 := hg2.cell x1)
              replace hr' := Lib.hid hr'
              replace y1 := Lib.hid y1
              refine Vc.wp_region_facts ⟨Gr, fun _ => Gr, fun _ W => Gr w2 W, []⟩ (by kernel_rfl) (by kernel_rfl) (fun _ _ _ h h' => h'.trans' h) (Gr.draw _) ?_
              repeat
                refine Vc.Walk.pure (v := ?_) (fun _ => Gr.rfl' _) rfl (by first | exact Vc.GuardYes.no rfl | exact Vc.GuardYes.yes rfl rfl) rfl rfl ?_ ?_
                rotate_left
                · intro _ W hI
                  (have y2 := hI.g.cell y1.out; have hcv1 := HC1.out _ (hg2.trans' hI.g); have hcv3 := run_str (P := Try.prog) (hr'.out.gr hI.g) 29 9 5 x.length c' rfl Try.underlying29 Try.underlying5 Try.underlying9; clear hI)
                  go_simp
                  exact rfl
              intro W hW
              have hW : Gr w2 W := hW
              simp only [List.reverse_cons, List.reverse_nil, List.nil_append, List.cons_append, Vc.finish, Act.put, List.setIfInBounds_toArray, List.set_cons_zero, List.set_cons_succ]
              go_wp2
              go_ret
              rw [hRf.out]
              exact ⟨rfl, hg.trans' (hg2.trans' hW)⟩
        · have hlt2 : ¬ ((l : Int) < k) := by omega
          have hRt := Lib.hid (show R = true ↔ F.length = k + (j - k) from by
            constructor
            · intro h
              have := (HR2.out.1 h).2.2
              omega
            · exact fun h => HR2.out.2 ⟨fun i hi => hall2.out i hi (by omega), fun i hi h1 => hal3.out i hi (by omega) (by omega), by omega⟩)
          clear HR2 hall2 hal3 HRd HRn
          have HN2 := Lib.hid (HN.out _ hg)
          clear HN
          generalize hFl : F.length = fl at *
          by_cases hfl : fl = k + (j - k)
          · have hRR := Lib.hid (hRt.out.2 hfl)
            have hbe : ((fl : Int) == (k : Int) + ((j - k : Nat) : Int)) = true := by simp; omega
            have hbe2 : (fl : Int) = (k : Int) + ((j - k : Nat) : Int) := by omega
            clear hRt
            go_wp2_with (go_at_call 23; refine HN2.out.mono ?_; rintro e w2 ⟨A', n', c', rfl, hn', _, hg2⟩; subst hn')
            go_ret
            rw [hRR.out]
            exact ⟨rfl, hg.trans' hg2⟩
          · have hRR := Lib.hid (show R = false from by cases hb : R; rfl; exact absurd (hRt.out.1 hb) hfl)
            clear hRt
            go_wp2_with (go_at_call 23; refine HN2.out.mono ?_; rintro e w2 ⟨A', n', c', rfl, hn', _, hg2⟩; subst hn')
            go_ret
            rw [hRR.out]
            refine ⟨?_, hg.trans' hg2⟩
            simp
            omega
end
end Go.Proofs.Ytcfbkhgdlgnmgaa
set_option linter.unusedVariables false
set_option linter.unusedSimpArgs false
namespace Go.Proofs.Ytcfbkhgdlgnmgaa
open Go.RowKit Cd
structure Gd (l : List Fl) : Prop where
  nm : l.map (·.1) = strs4.take l.length
  ln : l.length ≤ 4
  sm : ∀ f ∈ l, f.2.length ≤ 60
theorem goodR_map (rs : List FlR) {n : Nat} (h : n ≤ 4) : Gd ((goodR rs n).map FlR.fl) := by
  have hl : ((goodR rs n).map FlR.fl).length = n := by rw [List.length_map, goodR_len]
  refine ⟨?_, by rw [hl]; exact h, fun f hf => ?_⟩
  · rw [hl]
    refine List.ext_getElem? (fun i => ?_)
    unfold goodR nmA
    rw [List.map_map, List.map_map, List.getElem?_map, List.getElem?_take]
    by_cases hi : i < n
    · rw [List.getElem?_range hi, if_pos hi]
      show some (strs4.getD i []) = _
      rw [List.getD_eq_getElem?_getD, List.getElem?_eq_getElem (show i < strs4.length by show i < 4; omega)]
      rfl
    · rw [if_neg hi, List.getElem?_eq_none (by simp; omega)]
      rfl
  · obtain ⟨g, hg, rfl⟩ := List.mem_map.1 hf
    unfold goodR at hg
    obtain ⟨i, hi, rfl⟩ := List.mem_map.1 hg
    show (List.take 60 _).length ≤ 60
    rw [List.length_take]
    omega
theorem Gd.nil : Gd [] := ⟨rfl, by simp, fun f hf => by cases hf⟩
theorem strs4_rising : strs4.Pairwise fun x y => bytesBefore x y = true := by decide
theorem rising_names {l : List Fl} {n : Nat} (h : l.map (·.1) = strs4.take n) : Files.Rising l := by
  have h1 : (l.map (·.1)).Pairwise fun x y => bytesBefore x y = true := by rw [h]; exact strs4_rising.sublist (List.take_sublist _ _)
  exact List.pairwise_map.1 h1
theorem Gd.rising {l : List Fl} (h : Gd l) : Files.Rising l := rising_names h.nm
theorem Gd.mem {l : List Fl} (h : Gd l) {f : Fl} (hf : f ∈ l) : f.1 ∈ strs4 := by
  have : f.1 ∈ l.map (·.1) := List.mem_map.2 ⟨f, hf, rfl⟩
  rw [h.nm] at this
  exact List.mem_of_mem_take this
theorem Gd.nodup {l : List Fl} (h : Gd l) : (l.map (·.1)).Nodup := by
  rw [h.nm]
  exact (by decide : strs4.Nodup).sublist (List.take_sublist _ _)
theorem strs4_ok : ∀ n ∈ strs4, nameBad n = false ∧ n ≠ jn ∧ n ≠ mk ∧ n.length ≤ 1 := by decide
theorem mayGo_ok : ∀ (l : List Fl) (seen : List Str), (∀ f ∈ l, nameBad f.1 = false ∧ f.2.length ≤ 8000) → (l.map (·.1)).Nodup → (∀ f ∈ l, f.1 ∉ seen) → mayGo seen l = 0
  | [], _, _, _, _ => rfl
  | (n, b) :: l, seen, h1, h2, h3 => by
    rw [List.map_cons, List.nodup_cons] at h2
    have h4 := h1 (n, b) (by simp)
    have h5 := h3 (n, b) (by simp)
    simp only at h4 h5
    unfold mayGo
    rw [if_neg (by simp [h4.1]), if_neg h5, if_neg (by omega)]
    refine mayGo_ok l _ (fun f hf => h1 f (by simp [hf])) h2.2 (fun f hf hm => ?_)
    rcases List.mem_append.1 hm with hm | hm
    · exact h3 f (by simp [hf]) hm
    · obtain e := List.mem_singleton.1 hm
      exact h2.1 (List.mem_map.2 ⟨f, hf, e⟩)
theorem Gd.may {l : List Fl} (h : Gd l) (h1 : 1 ≤ l.length) : mayM l = 0 := by
  unfold mayM
  have := h.ln
  rw [if_neg (by omega)]
  exact mayGo_ok l [] (fun f hf => ⟨(strs4_ok _ (h.mem hf)).1, by have := h.sm f hf; omega⟩) h.nodup (by simp)
theorem Gd.bytes {l : List Fl} (h : Gd l) : (bytesM l).length ≤ 700 := by
  have key : ∀ (l : List Fl), (∀ f ∈ l, f.1.length ≤ 20 ∧ f.2.length ≤ 60) → (l.flatMap fun f => textB f.1 ++ textB f.2).length ≤ l.length * 84 := by
    intro l
    induction l with
    | nil => simp
    | cons f l ih =>
      intro hh
      have h1 := ih (fun g hg => hh g (by simp [hg]))
      have h2 := hh f (by simp)
      rw [List.flatMap_cons, List.length_append, List.length_append, textB_length (by omega), textB_length (by omega), List.length_cons]
      omega
  have := key l (fun f hf => ⟨by have := (strs4_ok _ (h.mem hf)).2.2.2; omega, h.sm f hf⟩)
  have := h.ln
  unfold bytesM
  rw [List.length_cons]
  omega
theorem sum_le {α : Type} (g : α → Nat) (M : Nat) : ∀ l : List α, (∀ x ∈ l, g x ≤ M) → (l.map g).sum ≤ l.length * M
  | [], _ => by simp
  | x :: l, h => by
    have h1 := sum_le g M l (fun y hy => h y (by simp [hy]))
    have h2 := h x (by simp)
    rw [List.map_cons, List.sum_cons, List.length_cons, Nat.add_mul]
    omega
theorem Gd.used {l : List Fl} (h : Gd l) : Files.used l ≤ 240 := by
  have := sum_le (fun p : Str × Str => p.2.length) 60 l h.sm
  have := h.ln
  unfold Files.used
  omega
theorem Gd.grow {l : List Fl} (h : Gd l) (F : Files) : growF F l ≤ 240 := by
  have := sum_le (fun f : Fl => f.2.length - ((F.get f.1).getD []).length) 60 l (fun f hf => by have := h.sm f hf; omega)
  have := h.ln
  unfold growF
  omega
def bothF (old now : List Fl) : Files := now ++ old.drop now.length
theorem bothF_nil2 (now : List Fl) : bothF [] now = now := by simp [bothF]
theorem both_names {old now : List Fl} (h1 : Gd old) (h2 : Gd now) : (bothF old now).map (·.1) = strs4.take (max now.length old.length) := by
  unfold bothF
  rw [List.map_append, List.map_drop, h1.nm, h2.nm]
  rcases Nat.le_total now.length old.length with h | h
  · rw [Nat.max_eq_right h]
    have := List.take_append_drop now.length (strs4.take old.length)
    rw [List.take_take, Nat.min_eq_left h] at this
    exact this
  · rw [Nat.max_eq_left h, List.drop_eq_nil_of_le (by rw [List.length_take]; omega), List.append_nil]
theorem Gd.both {old now : List Fl} (h1 : Gd old) (h2 : Gd now) : Gd (bothF old now) := by
  have hl : (bothF old now).length = max now.length old.length := by
    unfold bothF
    rw [List.length_append, List.length_drop]
    omega
  refine ⟨by rw [both_names h1 h2, hl], by rw [hl]; have := h1.ln; have := h2.ln; omega, fun f hf => ?_⟩
  rcases List.mem_append.1 hf with hf | hf
  · exact h2.sm f hf
  · exact h1.sm f (List.mem_of_mem_drop hf)
theorem putAll_both {old now : List Fl} (h1 : Gd old) (h2 : Gd now) : putAll old now = bothF old now := by
  have hb := (h1.both h2).rising
  refine files_ext (putAll_rising now h1.rising) hb (fun n => ?_)
  by_cases hn : n ∈ now.map (·.1)
  · obtain ⟨f, hf, rfl⟩ := List.mem_map.1 hn
    rw [putAll_in now h1.rising h2.nodup f hf]
    exact (get_of_mem hb (show (f.1, f.2) ∈ _ from List.mem_append_left _ hf)).symm
  · rw [putAll_out now h1.rising hn]
    cases hg : Files.get old n with
    | some x =>
      have hm := get_some hg
      refine (get_of_mem hb (List.mem_append_right _ ?_)).symm
      rw [← List.take_append_drop now.length old] at hm
      rcases List.mem_append.1 hm with hm | hm
      · exfalso
        apply hn
        have h3 : n ∈ (old.take now.length).map (·.1) := List.mem_map.2 ⟨_, hm, rfl⟩
        rw [List.map_take, h1.nm, List.take_take] at h3
        rw [h2.nm]
        rcases Nat.le_total now.length old.length with h | h
        · rwa [Nat.min_eq_left h] at h3
        · rw [Nat.min_eq_right h] at h3
          exact (List.take_sublist_take_left h).subset h3
      · exact hm
    | none =>
      symm
      rw [get_none] at hg ⊢
      intro p hp e
      rcases List.mem_append.1 hp with hp | hp
      · exact hn (List.mem_map.2 ⟨p, hp, e⟩)
      · exact hg p (List.mem_of_mem_drop hp) e
theorem isM_both {old now : List Fl} (h1 : Gd old) (h2 : Gd now) : IsM (bothF old now) old now := by
  have hb := (h1.both h2).rising
  have hnm : ∀ (l : List Fl) (h : Gd l) i, i < l.length → (l.getD i default).1 = nmA i := fun l h i hi => by
    have := congrArg (fun x => x.getD i []) h.nm
    simp only [List.getD_eq_getElem?_getD, List.getElem?_map, List.getElem?_take, if_pos hi, List.getElem?_eq_getElem hi, Option.map_some, Option.getD_some] at this ⊢
    rw [this]
    unfold nmA
    rw [List.getD_eq_getElem?_getD]
  have hin : ∀ (l : List Fl) i, i < l.length → l.getD i default ∈ l := fun l i hi => by
    rw [List.getD_eq_getElem?_getD, List.getElem?_eq_getElem hi]
    exact List.getElem_mem hi
  refine ⟨fun i hi => ?_, fun i h3 hi => ?_, ?_⟩
  · unfold wantA
    by_cases hk : i < now.length
    · rw [if_pos hk, hnm old h1 i hi, ← hnm now h2 i hk]
      exact get_of_mem hb (List.mem_append_left _ (hin now i hk))
    · rw [if_neg hk]
      refine get_of_mem hb (List.mem_append_right _ ?_)
      rw [List.getD_eq_getElem?_getD, List.getElem?_eq_getElem hi]
      show old[i] ∈ _
      have := List.getElem_mem (l := old.drop now.length) (n := i - now.length) (by rw [List.length_drop]; omega)
      rw [List.getElem_drop] at this
      simpa [show now.length + (i - now.length) = i by omega] using this
  · exact get_of_mem hb (List.mem_append_left _ (hin now i hi))
  · unfold bothF
    rw [List.length_append, List.length_drop]
theorem Gd.get_out {l : List Fl} (h : Gd l) {n : Str} (hn : n ∉ strs4) : Files.get l n = none := by
  rw [get_none]
  intro p hp e
  exact hn (e ▸ h.mem hp)
theorem jn4 : jn ∉ strs4 := by decide
theorem mk4 : mk ∉ strs4 := by decide
theorem clean_new (r : Int) : Clean [] (V.new r) := ⟨rfl, rfl, rfl, rfl, List.Pairwise.nil⟩
theorem commit_good {old now : List Fl} {v : V} (h : Clean old v) (h1 : Gd old) (h2 : Gd now) (hn : 1 ≤ now.length) (hr : 1500 ≤ v.room) (hs : v.stop = 0) :
    ∃ v', commitM v now = (v', 0) ∧ Clean (bothF old now) v' ∧ v'.room = v.room ∧ v'.ops = v.ops + now.length + 9 ∧ v'.stop = 0 := by
  have hb := h2.bytes
  have hu := h1.used
  have hg := h2.grow old
  rcases commit_stage (M := 60) h (h2.may hn) (h1.get_out jn4) (h1.get_out mk4) (by omega) (fun n x _ hx => h1.sm _ (get_some hx)) h2.sm with ⟨k1, k2, k3, k4, k5⟩ | ⟨k1, _⟩
  · rw [putAll_both h1 h2] at k2
    exact ⟨(commitM v now).1, by rw [← k1], k2, k3, k4, k5 hs⟩
  · exact absurd hs k1
end Go.Proofs.Ytcfbkhgdlgnmgaa
set_option linter.unusedVariables false
set_option linter.unusedSimpArgs false
set_option maxRecDepth 100000
namespace Go.Proofs.Ytcfbkhgdlgnmgaa
open Go.RowKit
section
variable {X : Nat → Prop} {w0 W : World} {p : Nat} {s v' : V} {e0 : Int} {A B : Option Addr} {rs ts : List FlR}
theorem sv_new (r : Int) (w : World) : Calls Try.prog 16 #[.int .i64 r] w fun e w' => ∃ p X, e = .returned (.pointer (some ⟨p, 0, none⟩)) ∧ Sv w w' X p (V.new r) := by
  refine (new_any r w).mono ?_
  rintro e w1 ⟨p, X, rfl, ha, hg, hx⟩
  exact ⟨p, X, rfl, Sv.new ha hg hx⟩
end
end Go.Proofs.Ytcfbkhgdlgnmgaa
set_option linter.unusedVariables false
set_option linter.unusedSimpArgs false
namespace Go.Proofs.Ytcfbkhgdlgnmgaa
open Go.RowKit Cd
theorem write_room (s : V) (n b : Str) : (s.write n b).1.room = s.room := by
  unfold V.write
  split
  · rfl
  · split
    · rfl
    · split <;> rfl
theorem remove_room (s : V) (n : Str) : (s.remove n).1.room = s.room := by
  unfold V.remove
  split
  · rfl
  · split <;> rfl
theorem flush_room (s : V) : s.flush.1.room = s.room := by
  unfold V.flush
  split
  · rfl
  · split <;> rfl
theorem thn_room {r : V × Int} {f : V → V × Int} {m : Nat} (h : r.1.room = m) (hf : ∀ v, (f v).1.room = v.room) : (V.thn r f).1.room = m := by
  unfold V.thn
  split
  · exact h
  · rw [hf, h]
theorem putM_room (s : V) (n b : Str) : (putM s n b).1.room = s.room := by
  unfold putM
  split
  · exact write_room s n b
  · rw [flush_room, write_room]
theorem awayM_room (s : V) (n : Str) : (awayM s n).1.room = s.room := by
  unfold awayM
  split
  · exact remove_room s n
  · rw [flush_room, remove_room]
theorem writeAll_room : ∀ (l : List Fl) (s : V), (writeAll s l).1.room = s.room
  | [], s => rfl
  | f :: l, s => by
    unfold writeAll
    split
    · exact write_room _ _ _
    · rw [writeAll_room l, write_room]
theorem writeM_room (s : V) (l : List Fl) : (writeM s l).1.room = s.room :=
  thn_room (thn_room (thn_room (writeAll_room l s) flush_room) (fun v => awayM_room v mk)) (fun v => awayM_room v jn)
theorem commitM_room (s : V) (l : List Fl) : (commitM s l).1.room = s.room := by
  unfold commitM
  split
  · rfl
  · split
    · rfl
    · exact thn_room (thn_room (putM_room s jn _) (fun v => putM_room v mk [])) (fun v => writeM_room v l)
theorem recoverM_room (s : V) : (recoverM s).1.room = s.room := by
  unfold recoverM
  split
  · rfl
  · split
    · rfl
    · exact awayM_room _ _
    · rfl
    · split
      · rfl
      · exact writeM_room _ _
theorem thn_ops {r : V × Int} {f : V → V × Int} {a b k : Nat} (h : r.1.ops ≤ a ∧ r.1.stop ≤ b) (hf : ∀ v, (f v).1.ops ≤ v.ops + k ∧ (f v).1.stop ≤ v.stop) : (V.thn r f).1.ops ≤ a + k ∧ (V.thn r f).1.stop ≤ b := by
  unfold V.thn
  split
  · exact ⟨by omega, h.2⟩
  · have := hf r.1
    exact ⟨by omega, by omega⟩
theorem writeM_ops (s : V) (l : List Fl) : (writeM s l).1.ops ≤ s.ops + (l.length + 5) ∧ (writeM s l).1.stop ≤ s.stop := by
  have := thn_ops (thn_ops (thn_ops (writeAll_ops l s) (fun v => ⟨flush_ops v, flush_stop v⟩)) (fun v => awayM_ops v mk)) (fun v => awayM_ops v jn)
  unfold writeM
  exact ⟨by omega, this.2⟩
theorem commitM_ops (s : V) (l : List Fl) : (commitM s l).1.ops ≤ s.ops + (l.length + 9) ∧ (commitM s l).1.stop ≤ s.stop := by
  unfold commitM
  split
  · exact ⟨by simp only; omega, Nat.le_refl _⟩
  · split
    · exact ⟨by simp only; omega, Nat.le_refl _⟩
    · have := thn_ops (thn_ops (putM_ops s jn (bytesM l)) (fun v => putM_ops v mk [])) (fun v => writeM_ops v l)
      exact ⟨by omega, this.2⟩
theorem readM_len {b : Str} (h : ¬ (readM b).2 ≠ 0) : (readM b).1.length ≤ 8 := by
  unfold readM at h ⊢
  simp only at h ⊢
  split
  · simp
  · rename_i h1
    have := mayM_zero (Decidable.of_not_not fun hh => h1 (.inr hh))
    simp only
    omega
theorem recoverM_ops (s : V) : (recoverM s).1.ops ≤ s.ops + 20 ∧ (recoverM s).1.stop ≤ s.stop := by
  unfold recoverM
  split
  · exact ⟨by simp only; omega, Nat.le_refl _⟩
  · split
    · exact ⟨by simp only; omega, Nat.le_refl _⟩
    · have := awayM_ops s jn
      exact ⟨by omega, this.2⟩
    · exact ⟨by simp only; omega, Nat.le_refl _⟩
    · split
      · exact ⟨by simp only; omega, Nat.le_refl _⟩
      · rename_i h1
        have := readM_len h1
        exact ⟨Nat.le_trans (writeM_ops s _).1 (by omega), (writeM_ops s _).2⟩
theorem nil_of_get {K : Files} (hK : K.Rising) (h : ∀ n, K.get n = none) : K = [] := by
  cases K with
  | nil => rfl
  | cons p K =>
    have := get_of_mem hK (show (p.1, p.2) ∈ p :: K by simp)
    rw [h] at this
    cases this
theorem used_names (M : Nat) : ∀ (ns : List Str) {K : Files}, K.Rising → (∀ n x, K.get n = some x → n ∈ ns ∧ x.length ≤ M) → K.used ≤ ns.length * M
  | [], K, hK, h => by
    rw [nil_of_get hK (fun n => by
      cases e : K.get n with
      | none => rfl
      | some x => exact absurd (h n x e).1 (by simp))]
    simp [Files.used]
  | a :: ns, K, hK, h => by
    have h1 := used_names M ns (K := K.del a) (del_rising hK _) (fun n x e => by
      rw [get_del hK] at e
      split at e
      · cases e
      · rename_i hne
        obtain ⟨h2, h3⟩ := h n x e
        rcases List.mem_cons.1 h2 with rfl | h2
        · exact absurd rfl hne
        · exact ⟨h2, h3⟩)
    have h2 := used_del hK a
    have h3 : ((K.get a).getD []).length ≤ M := by
      cases e : K.get a with
      | none => simp
      | some x => exact (h a x e).2
    rw [List.length_cons, Nat.add_mul]
    omega
theorem durB_used {old now : List Fl} (h1 : Gd old) (h2 : Gd now) {K : Files} (hK : K.Rising) (hB : DurB 60 old now K) : K.used ≤ 4200 := by
  refine used_names 700 (jn :: mk :: strs4) hK (fun n x e => ?_)
  by_cases hm : n = mk
  · subst hm
    rw [hB.1] at e
    injection e with e
    subst e
    exact ⟨by simp, by simp⟩
  · by_cases hj : n = jn
    · subst hj
      rw [hB.2.1] at e
      injection e with e
      subst e
      exact ⟨by simp, h2.bytes⟩
    · by_cases hn : n ∈ nmsL now
      · have := hB.2.2.2 n x hn e
        obtain ⟨f, hf, rfl⟩ := List.mem_map.1 hn
        exact ⟨by have := h2.mem hf; simp [this], by omega⟩
      · rw [hB.2.2.1 n hn hm hj] at e
        have hm := get_some e
        have := h1.sm _ hm
        have h4 := h1.mem hm
        simp only at this h4
        exact ⟨by simp [h4], by omega⟩
structure Ins (old now : List Fl) (dn : Bool) (v : V) : Prop where
  cl : Clean v.now v
  du : Dur 60 old now v.now
  dd : dn = true → DurA (putAll old now) v.now
  room : v.room = 5000
theorem durA_self {G : Files} (h : G.get mk = none) : DurA G G := ⟨h, fun _ _ _ => rfl⟩
theorem ins_commit {old now : List Fl} {v : V} (h1 : Gd old) (h2 : Gd now) (hn : 1 ≤ now.length) (hc : Clean old v) (hr : v.room = 5000) (n : Int) (ks : List Int) :
    Ins old now (decide ((commitM (v.stopAt n) now).2 = 0)) ((commitM (v.stopAt n) now).1.crash ks) := by
  have hb := h2.bytes
  have hu := h1.used
  have hg := h2.grow old
  have hroom : ((commitM (v.stopAt n) now).1.crash ks).room = 5000 := by
    show (commitM (v.stopAt n) now).1.room = 5000
    rw [commitM_room]
    exact hr
  have hmk : (putAll old now).get mk = none := by rw [putAll_both h1 h2]; exact (h1.both h2).get_out mk4
  rcases commit_stage (M := 60) (hc.stopAt n) (h2.may hn) (h1.get_out jn4) (h1.get_out mk4) (by show _ ≤ v.room; omega) (fun n x _ hx => h1.sm _ (get_some hx)) h2.sm with ⟨k1, k2, k3, k4, k5⟩ | ⟨k1, k2, k3, k4, k5, k6⟩
  · have e : crashF (commitM (v.stopAt n) now).1.kept (commitM (v.stopAt n) now).1.since ks = putAll old now := by
      rw [k2.kept, k2.since]
      rfl
    have hcl := Clean.crash (by rw [k2.kept]; exact k2.up) ks e
    have hnow : ((commitM (v.stopAt n) now).1.crash ks).now = putAll old now := e
    refine ⟨by rw [hnow]; exact hcl, by rw [hnow]; exact .inr (.inr (durA_self hmk)), fun _ => by rw [hnow]; exact durA_self hmk, hroom⟩
  · refine ⟨Clean.crash k4 ks rfl, k6 ks, fun hd => ?_, hroom⟩
    rw [k2] at hd
    exact absurd hd (by decide)
theorem recover_case {old now : List Fl} {dn : Bool} {v : V} (h : Ins old now dn v) (h1 : Gd old) (h2 : Gd now) (hn : 1 ≤ now.length) (n : Int) :
    (∃ G, (G = old ∧ dn = false ∨ G = putAll old now) ∧ (recoverM (v.stopAt n)).2 = 0 ∧ Clean G (recoverM (v.stopAt n)).1) ∨
      (n.toNat ≠ 0 ∧ (recoverM (v.stopAt n)).1.kept.Rising ∧ ∀ ks, Dur 60 old now (crashF (recoverM (v.stopAt n)).1.kept (recoverM (v.stopAt n)).1.since ks) ∧ (dn = true → DurA (putAll old now) (crashF (recoverM (v.stopAt n)).1.kept (recoverM (v.stopAt n)).1.since ks))) := by
  have hcl := h.cl.stopAt n
  have hpg : Gd (putAll old now) := by rw [putAll_both h1 h2]; exact h1.both h2
  have hA : ∀ G : Files, Gd G → DurA G v.now → ((recoverM (v.stopAt n)).2 = 0 ∧ Clean G (recoverM (v.stopAt n)).1) ∨
      (n.toNat ≠ 0 ∧ (recoverM (v.stopAt n)).1.kept.Rising ∧ ∀ ks, DurA G (crashF (recoverM (v.stopAt n)).1.kept (recoverM (v.stopAt n)).1.since ks)) := fun G hG hd => by
    rcases recover_A hcl hG.rising hd (hG.get_out jn4) (hG.get_out mk4) with ⟨k1, k2, _⟩ | ⟨k1, _, _, k4, k5⟩
    · exact .inl ⟨k1, k2⟩
    · exact .inr ⟨k1, k4, k5⟩
  cases hdn : dn with
  | true =>
    rcases hA _ hpg (h.dd hdn) with ⟨k1, k2⟩ | ⟨k1, k2, k3⟩
    · exact .inl ⟨_, .inr rfl, k1, k2⟩
    · exact .inr ⟨k1, k2, fun ks => ⟨.inr (.inr (k3 ks)), fun _ => k3 ks⟩⟩
  | false =>
    rcases h.du with hd | hd | hd
    · rcases hA _ h1 hd with ⟨k1, k2⟩ | ⟨k1, k2, k3⟩
      · exact .inl ⟨_, .inl ⟨rfl, rfl⟩, k1, k2⟩
      · exact .inr ⟨k1, k2, fun ks => ⟨.inl (k3 ks), fun hh => by cases hh⟩⟩
    · have hu := durB_used h1 h2 h.cl.up hd
      have hg := h2.grow v.now
      rcases recover_B hcl h1.rising (h2.may hn) (h1.get_out jn4) (h1.get_out mk4) hd (by show _ ≤ v.room; rw [h.room]; omega) h2.sm with ⟨k1, k2, _⟩ | ⟨k1, _, _, k4, k5⟩
      · exact .inl ⟨_, .inr rfl, k1, k2⟩
      · exact .inr ⟨k1, k4, fun ks => ⟨k5 ks, fun hh => by cases hh⟩⟩
    · rcases hA _ hpg hd with ⟨k1, k2⟩ | ⟨k1, k2, k3⟩
      · exact .inl ⟨_, .inr rfl, k1, k2⟩
      · exact .inr ⟨k1, k2, fun ks => ⟨.inr (.inr (k3 ks)), fun hh => by cases hh⟩⟩
theorem ins_recover {old now : List Fl} {dn : Bool} {v : V} (h : Ins old now dn v) (h1 : Gd old) (h2 : Gd now) (hn : 1 ≤ now.length) (n : Int) (ks : List Int) :
    Ins old now dn ((recoverM (v.stopAt n)).1.crash ks) := by
  have hroom : ((recoverM (v.stopAt n)).1.crash ks).room = 5000 := by
    show (recoverM (v.stopAt n)).1.room = 5000
    rw [recoverM_room]
    exact h.room
  have hmk : (putAll old now).get mk = none := by rw [putAll_both h1 h2]; exact (h1.both h2).get_out mk4
  rcases recover_case h h1 h2 hn n with ⟨G, hG, k1, k2⟩ | ⟨k1, k2, k3⟩
  · have e : crashF (recoverM (v.stopAt n)).1.kept (recoverM (v.stopAt n)).1.since ks = G := by
      rw [k2.kept, k2.since]
      rfl
    have hcl := Clean.crash (by rw [k2.kept]; exact k2.up) ks e
    have hnow : ((recoverM (v.stopAt n)).1.crash ks).now = G := e
    rcases hG with ⟨rfl, hdf⟩ | rfl
    · exact ⟨by rw [hnow]; exact hcl, by rw [hnow]; exact .inl (durA_self (h1.get_out mk4)), fun hd => (by rw [hdf] at hd; cases hd), hroom⟩
    · exact ⟨by rw [hnow]; exact hcl, by rw [hnow]; exact .inr (.inr (durA_self hmk)), fun _ => by rw [hnow]; exact durA_self hmk, hroom⟩
  · exact ⟨Clean.crash k2 ks rfl, (k3 ks).1, (k3 ks).2, hroom⟩
theorem ins_last {old now : List Fl} {dn : Bool} {v : V} (h : Ins old now dn v) (h1 : Gd old) (h2 : Gd now) (hn : 1 ≤ now.length) (hs : v.stop = 0) :
    ∃ v' G, recoverM v = (v', 0) ∧ (G = old ∧ dn = false ∨ G = bothF old now) ∧ Clean G v' := by
  have e : v.stopAt 0 = v := by
    unfold V.stopAt
    cases v
    simp only at hs ⊢
    rw [hs]
    rfl
  have h3 := recover_case h h1 h2 hn 0
  rw [e, putAll_both h1 h2] at h3
  rcases h3 with ⟨G, hG, k1, k2⟩ | ⟨k1, _⟩
  · exact ⟨(recoverM v).1, G, by rw [← k1], hG, k2⟩
  · exact absurd rfl k1
end Go.Proofs.Ytcfbkhgdlgnmgaa
set_option linter.unusedVariables false
set_option linter.unusedSimpArgs false
set_option maxRecDepth 100000
namespace Go.Proofs.Ytcfbkhgdlgnmgaa
open Go.RowKit
structure Sz (w0 wg : World) (Xg : Nat → Prop) (W : World) (X : Nat → Prop) (p : Nat) (s : V) : Prop where
  sv : Sv w0 W X p s
  mv : Mv wg Xg W X
section
variable {X X' Xg Z Z2 : Nat → Prop} {w0 wg W W' : World} {p : Nat} {s s' v' : V} {e0 : Int} {A B : Option Addr} {rs ts : List FlR}
theorem Sz.step (h : Sz w0 wg Xg W X p s) (ha : At W' X' p s') (hm : Mv W X W' X') : Sz w0 wg Xg W' X' p s' := ⟨h.sv.step ha hm, h.mv.trans hm⟩
theorem Sz.more (h : Sz w0 wg Xg W X p s) (hg : Gr W W') : Sz w0 wg Xg W' X p s := ⟨h.sv.more hg, h.mv.trans (Mv.of_gr hg X)⟩
theorem Sz.fls (h : Sz w0 wg Xg W X p s) (hf : FlS wg Z A rs) (hz : ∀ i, Z i → ¬ Xg i ∧ i < wg.heap.size) : FlS W Z A rs := hf.tr h.mv.tr (fun i hi => (hz i hi).1)
theorem sz_commit (hS : Sz w0 wg Xg W X p s) (hd : Sd s) (hf : FlS wg Z A rs) (hz : ∀ i, Z i → ¬ Xg i ∧ i < wg.heap.size) (n c : Nat) (hn : rs.length = n) (hl : n ≤ 255) (hc : n ≤ c) (hb : ∀ f ∈ rs, f.q.n ≤ 1000000) :
    Calls Try.prog 19 #[.pointer (some ⟨p, 0, none⟩), .slice A n c] W fun e W' => e = .returned (.int .i64 (commitM s (rs.map FlR.fl)).2) ∧ ∃ X', Sz w0 wg Xg W' X' p (commitM s (rs.map FlR.fl)).1 := by
  subst hn
  refine (commit_any hS.sv.at_ hd (hS.fls hf hz) (lot_kept hz hS.mv) c hl hc hb).mono ?_
  rintro e W' ⟨rfl, X', ha, hm⟩
  exact ⟨rfl, X', hS.step ha hm⟩
theorem sz_recover (hS : Sz w0 wg Xg W X p s) (hd : Sc s) :
    Calls Try.prog 22 #[.pointer (some ⟨p, 0, none⟩)] W fun e W' => e = .returned (.int .i64 (recoverM s).2) ∧ ∃ X', Sz w0 wg Xg W' X' p (recoverM s).1 := by
  refine (recover_any hS.sv.at_ hd).mono ?_
  rintro e W' ⟨rfl, X', ha, hm⟩
  exact ⟨rfl, X', hS.step ha hm⟩
theorem sz_stop (hS : Sz w0 wg Xg W X p s) (n : Int) :
    Calls Try.prog 25 #[.pointer (some ⟨p, 0, none⟩), .int .i64 n] W fun e W' => e = .returned (.tuple #[]) ∧ Sz w0 wg Xg W' X p (s.stopAt n) := by
  refine (stop_any hS.sv.at_ n).mono ?_
  rintro e W' ⟨rfl, ha, hm⟩
  exact ⟨rfl, hS.step ha hm⟩
theorem sz_crash (hS : Sz w0 wg Xg W X p s) (hs : Sm s) (n c : Nat) (ks : List Int) (hn : Hid (ks.length = n)) (hr : Rd w0 A (ks.map iv)) (hl : n ≤ 9223372036854775807) :
    Calls Try.prog 26 #[.pointer (some ⟨p, 0, none⟩), .slice A n c] W fun e W' => e = .returned (.tuple #[]) ∧ ∃ X', Sz w0 wg Xg W' X' p (s.crash ks) := by
  refine (crash_any hS.sv.at_ hs A n c ks hn (hr.gr hS.sv.gr) (fun h0 ad e hx => ?_) hl).mono ?_
  · have h1 := hS.sv.hi _ hx
    have h2 := rd_lt hr (by rw [List.length_map]; have := hn.out; omega) ad e
    omega
  · rintro e W' ⟨rfl, X', ha, hm⟩
    exact ⟨rfl, X', hS.step ha hm⟩
theorem sz_is (hS : Sz w0 wg Xg W X p s) (hs : Sm s) (hd : s.dead = false) (hf : FlS wg Z A rs) (hz : ∀ i, Z i → ¬ Xg i ∧ i < wg.heap.size) (hf2 : FlS wg Z2 B ts) (hz2 : ∀ i, Z2 i → ¬ Xg i ∧ i < wg.heap.size) (n m c c2 : Nat) (hn : rs.length = n) (hm : ts.length = m) (hl : n ≤ 255) (hl2 : m ≤ 255) :
    Calls Try.prog 20 #[.pointer (some ⟨p, 0, none⟩), .slice A n c, .slice B m c2] W fun e W' => ∃ b : Bool, e = .returned (.bool b) ∧ (b = true ↔ IsM s.now (rs.map FlR.fl) (ts.map FlR.fl)) ∧ Sz w0 wg Xg W' X p s := by
  subst hn
  subst hm
  refine (is_any hS.sv.at_ hs hd (hS.fls hf hz) (hS.fls hf2 hz2) c c2 hl hl2).mono ?_
  rintro e W' ⟨b, rfl, hb, hg⟩
  exact ⟨b, rfl, hb, hS.more hg⟩
theorem good_z (h : FlS W Z A rs) (hz : ∀ i, Z i → i < W.heap.size) (n c : Nat) (hn : rs.length = n) (k : Nat) (hk : k ≤ 4) (hl : n ≤ 10) :
    Calls Try.prog 12 #[.slice A n c, .int .i64 k] W fun e w' => ∃ A' c' gs, e = .returned (.slice A' (min n k) c') ∧ gs.length = min n k ∧ min n k ≤ c' ∧ FlS w' (fun i => (Z i ∨ W.heap.size ≤ i) ∧ i < w'.heap.size) A' gs ∧ Gd (gs.map FlR.fl) ∧ (∀ f ∈ gs, f.q.n ≤ 60) ∧ Gr W w' := by
  subst hn
  refine (good_any h hz c k hk (by unfold maxLen; omega)).mono ?_
  rintro e w' ⟨A', c', rfl, hf, hg⟩
  refine ⟨A', c', _, rfl, goodR_len _ _, hf.own.le.1, hf.fls.mono (fun i hi => ⟨?_, hi.2⟩), goodR_map rs (by omega), fun f hf' => ?_, hg⟩
  · rcases hi.1 with h1 | h1
    · exact .inl h1
    · exact .inr (hf.own.blk i h1).1
  · unfold goodR at hf'
    obtain ⟨i, _, rfl⟩ := List.mem_map.1 hf'
    exact Nat.min_le_right _ _
end
end Go.Proofs.Ytcfbkhgdlgnmgaa
set_option linter.unusedVariables false
set_option linter.unusedSimpArgs false
set_option maxRecDepth 100000
namespace Go.Proofs.Ytcfbkhgdlgnmgaa.commitWhole
open Go.RowKit
structure Rdy (w0 wg : World) (Xg : Nat → Prop) (p : Nat) (gs hs : List FlR) (A3 A4 : Option Addr) (k k' c3 c4 : Nat) : Prop where
  l1 : gs.length = k
  l2 : hs.length = k'
  c1 : k ≤ c3
  c2 : k' ≤ c4
  z1 : ∃ Z, FlS wg Z A3 gs ∧ ∀ i, Z i → ¬ Xg i ∧ i < wg.heap.size
  z2 : ∃ Z, FlS wg Z A4 hs ∧ ∀ i, Z i → ¬ Xg i ∧ i < wg.heap.size
  g1 : Gd (gs.map FlR.fl)
  g2 : Gd (hs.map FlR.fl)
  b1 : ∀ f ∈ gs, f.q.n ≤ 60
  b2 : ∀ f ∈ hs, f.q.n ≤ 60
  k1 : k ≤ 4
  k2 : 1 ≤ k' ∧ k' ≤ 4
section
variable {w0 wg W : World} {X Xg : Nat → Prop} {p : Nat} {s : V} {gs hs : List FlR} {A3 A4 : Option Addr} {k k' c3 c4 : Nat}
theorem Rdy.cm1 (h : Rdy w0 wg Xg p gs hs A3 A4 k k' c3 c4) (hk : 1 ≤ k) (hS : Sz w0 wg Xg W X p (V.new 5000)) :
    Calls Try.prog 19 #[.pointer (some ⟨p, 0, none⟩), .slice A3 k c3] W fun e W' => e = .returned (.int .i64 0) ∧ ∃ X' s1, Sz w0 wg Xg W' X' p s1 ∧ Clean (gs.map FlR.fl) s1 ∧ s1.room = 5000 ∧ s1.ops ≤ 20 ∧ s1.stop = 0 := by
  obtain ⟨Z, hf, hz⟩ := h.z1
  obtain ⟨v1, e1, q1, hr1, ho1, hs1⟩ := commit_good (clean_new 5000) Gd.nil h.g1 (by rw [List.length_map, h.l1]; exact hk) (by decide) rfl
  rw [bothF_nil2] at q1
  rw [List.length_map, h.l1] at ho1
  refine (sz_commit hS ⟨Nat.zero_le _, Nat.zero_le _⟩ hf hz k c3 h.l1 (by have := h.k1; omega) h.c1 (fun f hf => by have := h.b1 f hf; omega)).mono ?_
  rw [e1]
  rintro e W' ⟨rfl, X', hS'⟩
  exact ⟨rfl, X', v1, hS', q1, by rw [hr1]; rfl, by have := h.k1; have : v1.ops = 0 + k + 9 := ho1; omega, hs1⟩
theorem Rdy.cm2 (h : Rdy w0 wg Xg p gs hs A3 A4 k k' c3 c4) (hS : Sz w0 wg Xg W X p s) (hd : Sd s) :
    Calls Try.prog 19 #[.pointer (some ⟨p, 0, none⟩), .slice A4 k' c4] W fun e W' => ∃ X' e2, e = .returned (.int .i64 e2) ∧ e2 = (commitM s (hs.map FlR.fl)).2 ∧ Sz w0 wg Xg W' X' p (commitM s (hs.map FlR.fl)).1 := by
  obtain ⟨Z, hf, hz⟩ := h.z2
  refine (sz_commit hS hd hf hz k' c4 h.l2 (by have := h.k2; omega) h.c2 (fun f hf => by have := h.b2 f hf; omega)).mono ?_
  rintro e W' ⟨rfl, X', hS'⟩
  exact ⟨X', _, rfl, rfl, hS'⟩
theorem Rdy.is1 (h : Rdy w0 wg Xg p gs hs A3 A4 k k' c3 c4) (hS : Sz w0 wg Xg W X p s) (hs' : Sm s) (hd : s.dead = false) :
    Calls Try.prog 20 #[.pointer (some ⟨p, 0, none⟩), .slice A3 k c3, .slice A4 k' c4] W fun e W' => ∃ b : Bool, e = .returned (.bool b) ∧ (b = true ↔ IsM s.now (gs.map FlR.fl) (hs.map FlR.fl)) ∧ Sz w0 wg Xg W' X p s := by
  obtain ⟨Z, hf, hz⟩ := h.z1
  obtain ⟨Z2, hf2, hz2⟩ := h.z2
  exact sz_is hS hs' hd hf hz hf2 hz2 k k' c3 c4 h.l1 h.l2 (by have := h.k1; omega) (by have := h.k2; omega)
theorem Rdy.is2 (h : Rdy w0 wg Xg p gs hs A3 A4 k k' c3 c4) (hS : Sz w0 wg Xg W X p s) (hs' : Sm s) (hd : s.dead = false) :
    Calls Try.prog 20 #[.pointer (some ⟨p, 0, none⟩), .slice A3 k c3, .slice none 0 0] W fun e W' => ∃ b : Bool, e = .returned (.bool b) ∧ (b = true ↔ IsM s.now (gs.map FlR.fl) []) ∧ Sz w0 wg Xg W' X p s := by
  obtain ⟨Z, hf, hz⟩ := h.z1
  exact sz_is (ts := []) (Z2 := fun _ => False) hS hs' hd hf hz (FlS.nil _ _ _) (fun i hi => hi.elim) k 0 c3 0 h.l1 rfl (by have := h.k1; omega) (by omega)
theorem rdy_mk {w1 w4 w5 w6 : World} {X4 : Nat → Prop} (hg1 : Gr W w1) (hS4 : Sv w1 w4 X4 p s) (hf5 : FlS w5 (fun i => (i < W.heap.size ∨ w4.heap.size ≤ i) ∧ i < w5.heap.size) A3 gs) (hg5 : Gr w4 w5)
    (hf6 : FlS w6 (fun i => (i < W.heap.size ∨ w5.heap.size ≤ i) ∧ i < w6.heap.size) A4 hs) (hg6 : Gr w5 w6) (l1 : gs.length = k) (l2 : hs.length = k') (c1 : k ≤ c3) (c2 : k' ≤ c4) (g1 : Gd (gs.map FlR.fl)) (g2 : Gd (hs.map FlR.fl)) (b1 : ∀ f ∈ gs, f.q.n ≤ 60) (b2 : ∀ f ∈ hs, f.q.n ≤ 60) (k1 : k ≤ 4) (k2 : 1 ≤ k' ∧ k' ≤ 4) :
    Rdy w1 w6 X4 p gs hs A3 A4 k k' c3 c4 ∧ Sz w1 w6 X4 w6 X4 p s := by
  have h1 := hg1.size
  have h5 := hg5.size
  have h6 := hg6.size
  refine ⟨⟨l1, l2, c1, c2, ⟨_, hf5.gr hg6, fun i hi => ⟨fun hx => ?_, ?_⟩⟩, ⟨_, hf6, fun i hi => ⟨fun hx => ?_, hi.2⟩⟩, g1, g2, b1, b2, k1, k2⟩, hS4.more (hg5.trans' hg6), Mv.rfl' _ _⟩
  · have := hS4.hi i hx
    have := hS4.at_.lt i hx
    rcases hi.1 with h | h <;> omega
  · have := hi.2
    omega
  · have := hS4.hi i hx
    have := hS4.at_.lt i hx
    rcases hi.1 with h | h <;> omega
theorem Rdy.len2 (h : Rdy w0 wg Xg p gs hs A3 A4 k k' c3 c4) : 1 ≤ (hs.map FlR.fl).length := by rw [List.length_map, h.l2]; exact h.k2.1
theorem Rdy.start0 (h : Rdy w0 wg Xg p gs hs A3 A4 0 k' c3 c4) (hS : Sz w0 wg Xg wg Xg p (V.new 5000)) :
    ∃ X' s1, Sz w0 wg Xg wg X' p s1 ∧ Clean (gs.map FlR.fl) s1 ∧ s1.room = 5000 ∧ s1.ops ≤ 20 ∧ s1.stop = 0 := by
  have e : gs = [] := List.eq_nil_of_length_eq_zero h.l1
  subst e
  exact ⟨Xg, _, hS, clean_new 5000, rfl, Nat.zero_le _, rfl⟩
theorem Rdy.ins1 (h : Rdy w0 wg Xg p gs hs A3 A4 k k' c3 c4) {n : Int} {ks : List Int} {e2 : Int} (hc : Clean (gs.map FlR.fl) s) (hr : s.room = 5000) (he : e2 = (commitM (s.stopAt n) (hs.map FlR.fl)).2) :
    Ins (gs.map FlR.fl) (hs.map FlR.fl) (e2 == 0) (V.crash (commitM (V.stopAt s n) (hs.map FlR.fl)).1 ks) := by
  rw [he]
  exact ins_commit h.g1 h.g2 h.len2 hc hr n ks
theorem Rdy.ops1 (h : Rdy w0 wg Xg p gs hs A3 A4 k k' c3 c4) {n : Int} {ks : List Int} (ho : s.ops ≤ 20) :
    (V.crash (commitM (V.stopAt s n) (hs.map FlR.fl)).1 ks).ops ≤ 60 + 20 * 0 ∧ (V.crash (commitM (V.stopAt s n) (hs.map FlR.fl)).1 ks).stop = 0 := by
  refine ⟨?_, rfl⟩
  show (commitM (V.stopAt s n) (hs.map FlR.fl)).1.ops ≤ _
  have := (commitM_ops (V.stopAt s n) (hs.map FlR.fl)).1
  rw [List.length_map, h.l2] at this
  have h2 : (V.stopAt s n).ops = s.ops := rfl
  have := h.k2
  omega
theorem Rdy.sm2 (h : Rdy w0 wg Xg p gs hs A3 A4 k k' c3 c4) {n : Int} (ho : s.ops ≤ 20) (hn : n.toNat ≤ 1000) : Sm (commitM (V.stopAt s n) (hs.map FlR.fl)).1 := by
  have h1 := commitM_ops (V.stopAt s n) (hs.map FlR.fl)
  rw [List.length_map, h.l2] at h1
  have h2 : (V.stopAt s n).ops = s.ops := rfl
  have h3 : (V.stopAt s n).stop = n.toNat := rfl
  have := h.k2
  exact ⟨by omega, by omega⟩
end
set_option maxHeartbeats 4000000 in
theorem walk (W : World) (a0 : Option Addr) (n0 c0 : Nat) (x0 : List FlR) (hn0 : Hid (x0.length = n0)) (hf0 : FlS W (fun i => i < W.heap.size) a0 x0) (hl0 : n0 ≤ c0) (hc0 : c0 ≤ maxLen)
    (a1 : Option Addr) (n1 c1 : Nat) (x1 : List FlR) (hn1 : Hid (x1.length = n1)) (hf1 : FlS W (fun i => i < W.heap.size) a1 x1) (hl1 : n1 ≤ c1) (hc1 : c1 ≤ maxLen)
    (x2 : Int) (h2a : -9223372036854775808 ≤ x2) (h2b : x2 ≤ 9223372036854775807)
    (a3 : Option Addr) (n3 c3 : Nat) (x3 : List Int) (hn3 : Hid (x3.length = n3)) (hr3 : Rd W a3 (x3.map iv)) (hb3 : ∀ x ∈ x3, -9223372036854775808 ≤ x ∧ x ≤ 9223372036854775807) (hl3 : n3 ≤ c3) (hc3 : c3 ≤ maxLen)
    (a4 : Option Addr) (n4 c4 : Nat) (x4 : List Int) (hn4 : Hid (x4.length = n4)) (hr4 : Rd W a4 (x4.map iv)) (hb4 : ∀ x ∈ x4, -9223372036854775808 ≤ x ∧ x ≤ 9223372036854775807) (hl4 : n4 ≤ c4) (hc4 : c4 ≤ maxLen)
    (a5 : Option Addr) (n5 C5 : Nat) (x5 : List Int) (hn5 : Hid (x5.length = n5)) (hr5 : Rd W a5 (x5.map iv)) (hb5 : ∀ x ∈ x5, -9223372036854775808 ≤ x ∧ x ≤ 9223372036854775807) (hl5 : n5 ≤ C5) (hc5 : C5 ≤ maxLen) :
    Calls Try.prog 8 #[.slice a0 n0 c0, .slice a1 n1 c1, .int .i64 x2, .slice a3 n3 c3, .slice a4 n4 c4, .slice a5 n5 C5] W fun e W' => e = .returned (.bool true) ∧ Gr W W' := by
  have hn := hn0.out
  have hm : n0 ≤ maxLen := Nat.le_trans hl0 hc0
  have hn' := hn1.out
  have hm' : n1 ≤ maxLen := Nat.le_trans hl1 hc1
  have hm3 : n3 ≤ maxLen := Nat.le_trans hl3 hc3
  have hm4 : n4 ≤ maxLen := Nat.le_trans hl4 hc4
  have hm5 : n5 ≤ maxLen := Nat.le_trans hl5 hc5
  unfold maxLen at hm3 hm4 hm5
  have HK := Lib.hid (known_any W)
  have HF := Lib.hid (fun W1 (hg : Gr W W1) => hn ▸ few_any (hf0.gr hg) c0 (by omega))
  have HF' := Lib.hid (fun W1 (hg : Gr W W1) => hn' ▸ few_any (hf1.gr hg) c1 (by omega))
  have HG := Lib.hid (fun W1 (hg : Gr W W1) (hl : n0 ≤ 10) => good_z (hf0.gr hg) (fun i hi => Nat.lt_of_lt_of_le hi hg.size) n0 c0 hn 4 (by omega) hl)
  have HG' := Lib.hid (fun W1 (hg : Gr W W1) (hl : n1 ≤ 10) => good_z (hf1.gr hg) (fun i hi => Nat.lt_of_lt_of_le hi hg.size) n1 c1 hn' 3 (by omega) hl)
  have hfew : FewM x0 → n0 ≤ 10 := fun h => by have := h.2; omega
  have hfew' : FewM x1 → n1 ≤ 10 := fun h => by have := h.2; omega
  replace hr3 := Lib.hid hr3
  replace hr4 := Lib.hid hr4
  replace hr5 := Lib.hid hr5
  replace hb4 := Lib.hid hb4
  clear hn hf0 hn0 hn' hf1 hn1 hb3 hb5
  by_cases hfw : FewM x0
  · have hle := hfew hfw
    have hdt : decide (FewM x0) = true := decide_eq_true hfw
    rw [hdt] at HF
    clear hfw hdt hfew
    by_cases hfw : FewM x1
    · have hle' := hfew' hfw
      have hdt : decide (FewM x1) = true := decide_eq_true hfw
      rw [hdt] at HF'
      clear hfw hdt hfew'
      by_cases h1 : n1 = 0
      · subst h1
        go_enter Try.func8, Try.ntmps8
        go_wp2_with (first
          | (go_at_call 10; refine HK.out.mono ?_; rintro e w1 ⟨rfl, hg1⟩; replace hg1 := Lib.hid hg1)
          | (go_at_call 11; refine (HF'.out _ hg2.out).mono ?_; rintro e w3 ⟨rfl, hw3⟩; replace hw3 := hw3.symm; subst hw3)
          | (go_at_call 11; refine (HF.out _ hg1.out).mono ?_; rintro e w2 ⟨rfl, hw2⟩; replace hw2 := hw2.symm; subst hw2; have hg2 := hg1))
        go_ret
        exact ⟨rfl, hg1.out⟩
      · have h1' : (n1 == 0) = false := by simpa using h1
        have h1'' : ((n1 : Int) == 0) = false := by simp; omega
        have HG2 := Lib.hid (fun W1 hg => HG.out W1 hg hle)
        have HG2' := Lib.hid (fun W1 hg => HG'.out W1 hg hle')
        have HN := Lib.hid (sv_new 5000)
        have hr16 : 0 ≤ x2 % 16 ∧ x2 % 16 < 16 := ⟨Int.emod_nonneg _ (by omega), Int.emod_lt_of_pos _ (by omega)⟩
        have HW1 := Lib.hid (fun W => within1_any x2 16 W h2a h2b (by omega) (by omega))
        generalize x2 % 16 = r16 at *
        obtain ⟨r16a, r16b⟩ := hr16
        clear HG HG'
        by_cases h0 : n0 = 0
        · subst h0
          go_enter Try.func8, Try.ntmps8
          go_wp2_with (first
            | (go_at_call 10; refine HK.out.mono ?_; rintro e w1 ⟨rfl, hg1⟩; replace hg1 := Lib.hid hg1)
            | (go_at_call 11; refine (HF'.out _ hg2.out).mono ?_; rintro e w3 ⟨rfl, hw3⟩; replace hw3 := hw3.symm; subst hw3)
            | (go_at_call 11; refine (HF.out _ hg1.out).mono ?_; rintro e w2 ⟨rfl, hw2⟩; replace hw2 := hw2.symm; subst hw2; have hg2 := hg1)
            | (go_at_call 16; refine (HN.out _).mono ?_; rintro e w4 ⟨p, X4, rfl, hS4⟩; replace hS4 := Lib.hid hS4)
            | (go_at_call 12; refine (HG2'.out _ hg5.out.2).mono ?_; rintro e w6 ⟨A6, c6, hs, rfl, l2, k2, hf6, g2, b2, hg6⟩
               obtain ⟨l1, k1, hf5, g1, b1, hg45⟩ := hF5.out
               have HY := Lib.hid (rdy_mk hg1.out hS4.out hf5 hg45 hf6 hg6 l1 l2 k1 k2 g1 g2 b1 b2 (by omega) (by omega))
               clear l1 l2 k1 k2 hf5 hf6 g1 g2 b1 b2 hg45 hg6 hF5
               obtain ⟨k', hk'⟩ : ∃ k', k' = min n1 3 := ⟨_, rfl⟩
               rw [← hk'] at HY ⊢
               have hk1' : 1 ≤ k' := by omega
               have hk2' : k' ≤ 3 := by omega
               clear hk'
               have HP := Lib.hid (HY.out.1.start0 HY.out.2))
            | (go_at_call 12; refine (HG2.out _ (hg1.out.trans' hS4.out.gr)).mono ?_; rintro e w5 ⟨A5, c5, gs, rfl, l1, k1, hf5, g1, b1, hg45⟩
               have hg5 := Lib.hid (And.intro hg45 ((hg1.out.trans' hS4.out.gr).trans' hg45))
               have hF5 := Lib.hid (And.intro l1 (And.intro k1 (And.intro hf5 (And.intro g1 (And.intro b1 hg45)))))
               clear l1 k1 hf5 g1 b1 hg45)
            | (go_at_call 19; refine (HY.out.1.cm2 hS8.out ⟨show s1.ops ≤ _ from by have := hP.out.2.2.1; omega, show (1 + r16).toNat ≤ _ from by omega⟩).mono ?_; rintro e w9 ⟨X9, e2, rfl, he2, hS9⟩; replace hS9 := Lib.hid hS9; replace he2 := Lib.hid he2)
            | (go_at_call 15; refine (HW1.out _).mono ?_; rintro e w7' ⟨rfl, hw7⟩; subst hw7; obtain ⟨X7, s1, hS7, q1, q2, q3, q4⟩ := HP.out; have hP := Lib.hid (And.intro q1 (And.intro q2 (And.intro q3 q4))); replace hS7 := Lib.hid hS7; clear q1 q2 q3 q4)
            | (go_at_call 25; refine (sz_stop hS7.out (1 + r16)).mono ?_; rintro e w8 ⟨rfl, hS8⟩; replace hS8 := Lib.hid hS8)
            | (go_at_call 26; refine (sz_crash hS9.out (HY.out.1.sm2 (by have := hP.out.2.2.1; exact this) (by omega)) n3 c3 x3 hn3 (hr3.out.gr hg1.out) (by omega)).mono ?_; rintro e w10 ⟨rfl, X10, hS10⟩; replace hS10 := Lib.hid hS10))
          have hIn := Lib.hid (HY.out.1.ins1 (n := 1 + r16) (ks := x3) hP.out.1 hP.out.2.1 he2.out)
          have hop := Lib.hid (HY.out.1.ops1 (n := 1 + r16) (ks := x3) hP.out.2.2.1)
          clear hP hS9 he2 HW1
          generalize (V.crash (commitM (V.stopAt s1 (1 + r16)) (hs.map FlR.fl)).1 x3) = v10 at hS10 hIn hop
          go_loopw [17] (fun i wr => ∃ j : Nat, i = .int .i64 j ∧ j ≤ 6 ∧ j ≤ n4 ∧ ∃ X v, Hid (Sz w1 w6 X4 wr X p v) ∧ Hid (Ins (gs.map FlR.fl) (hs.map FlR.fl) (e2 == 0) v) ∧ Hid (v.ops ≤ 60 + 20 * j ∧ v.stop = 0)) (fun i _ => 6 - (intOf i).toNat)
          case atStart => exact ⟨0, rfl, by omega, by omega, X10, v10, hS10, hIn, hop⟩
          case round =>
            obtain ⟨j, rfl, hj6, hj4, X11, v11, hS11, hI11, ho11⟩ := hrel
            by_cases hlt : j < n4 ∧ j < 6
            · obtain ⟨hA, hB⟩ := hlt
              have hjl : j < x4.length := by have := hn4.out; omega
              obtain ⟨ad, rfl, hc⟩ := ((hr4.out.gr hg1.out).gr hS11.out.sv.gr).at_ (k := j) (by simpa using hjl)
              simp only [List.getElem_map, iv] at hc
              have hbj := hb4.out _ (List.getElem_mem hjl)
              generalize x4[j] = y at *
              have hr9 : 0 ≤ y % 9 ∧ y % 9 < 9 := ⟨Int.emod_nonneg _ (by omega), Int.emod_lt_of_pos _ (by omega)⟩
              have HW9 := Lib.hid (fun W => within1_any y 9 W hbj.1 hbj.2 (by omega) (by omega))
              generalize y % 9 = r9 at *
              obtain ⟨r9a, r9b⟩ := hr9
              go_wp2_with (first
                | (go_at_call 15; refine (HW9.out _).mono ?_; rintro e w12 ⟨rfl, hw12⟩; subst hw12)
                | (go_at_call 25; refine (sz_stop hS11.out (1 + r9)).mono ?_; rintro e w13 ⟨rfl, hS13⟩; replace hS13 := Lib.hid hS13)
                | (go_at_call 22; refine (sz_recover hS13.out ⟨show v11.ops ≤ _ from by have := ho11.out.1; omega, show (1 + r9).toNat ≤ _ from by omega⟩).mono ?_; rintro e w14 ⟨rfl, X14, hS14⟩; replace hS14 := Lib.hid hS14)
                | (go_at_call 26; refine (sz_crash hS14.out ⟨by have := (recoverM_ops (v11.stopAt (1 + r9))).1; have := ho11.out.1; have : (v11.stopAt (1 + r9)).ops = v11.ops := rfl; omega, by have := (recoverM_ops (v11.stopAt (1 + r9))).2; have : (v11.stopAt (1 + r9)).stop = (1 + r9).toNat := rfl; omega⟩ n5 C5 x5 hn5 (hr5.out.gr hg1.out) (by omega)).mono ?_; rintro e w15 ⟨rfl, X15, hS15⟩; replace hS15 := Lib.hid hS15))
              go_roundw
              case rel => exact ⟨j + 1, by go_num, by omega, by omega, X15, _, hS15, Lib.hid (ins_recover hI11.out HY.out.1.g1 HY.out.1.g2 HY.out.1.len2 (1 + r9) x5), Lib.hid ⟨by show (recoverM (v11.stopAt (1 + r9))).1.ops ≤ _; have := (recoverM_ops (v11.stopAt (1 + r9))).1; have := ho11.out.1; have : (v11.stopAt (1 + r9)).ops = v11.ops := rfl; omega, rfl⟩⟩
              case measure => simp [intOf]; omega
            · obtain ⟨v', G, hR, hG, hcG⟩ := ins_last hI11.out HY.out.1.g1 HY.out.1.g2 HY.out.1.len2 ho11.out.2
              have hro := recoverM_ops v11
              have HR := Lib.hid (sz_recover hS11.out ⟨by have := ho11.out.1; omega, by have := ho11.out.2; omega⟩)
              rw [hR] at HR hro
              have hsm : Sm v' := ⟨by have := ho11.out.1; simp only at hro; omega, by have := ho11.out.2; simp only at hro; omega⟩
              have HI1 := Lib.hid (fun W X (hS : Sz w1 w6 X4 W X p v') => HY.out.1.is1 hS hsm hcG.live)
              have HI2 := Lib.hid (fun W X (hS : Sz w1 w6 X4 W X p v') => HY.out.1.is2 hS hsm hcG.live)
              have hb1 := Lib.hid (show G = bothF (gs.map FlR.fl) (hs.map FlR.fl) → IsM v'.now (gs.map FlR.fl) (hs.map FlR.fl) from fun h => by rw [hcG.now, h]; exact isM_both HY.out.1.g1 HY.out.1.g2)
              have hb2 := Lib.hid (show G = gs.map FlR.fl → IsM v'.now (gs.map FlR.fl) [] from fun h => by rw [hcG.now, h]; exact isM_both HY.out.1.g1 Gd.nil)
              clear hro hR hI11 hcG hsm
              have hG := Lib.hid hG
              have hex : n4 ≤ j ∨ j = 6 := by omega
              clear hlt
              by_cases hM : IsM v'.now (gs.map FlR.fl) (hs.map FlR.fl)
              · have hMh := Lib.hid hM
                clear hM
                rcases hex with hex | hex
                · obtain rfl : j = n4 := by omega
                  have hjj : ¬ ((j : Int) < j) := by omega
                  go_wp2_with (first
                    | (go_at_call 22; refine HR.out.mono ?_; rintro e w16 ⟨rfl, X16, hS16⟩; replace hS16 := Lib.hid hS16)
                    | (go_at_call 20; refine (HI1.out _ _ hS16.out).mono ?_; rintro e w17 ⟨b1, rfl, hbb1, hS17⟩; obtain rfl : b1 = true := hbb1.2 hMh.out; clear hbb1; replace hS17 := Lib.hid hS17))
                  all_goals (go_ret; exact ⟨rfl, hg1.out.trans' hS17.out.sv.gr⟩)
                · subst hex
                  have hjj : ¬ (((6 : Nat) : Int) < 6) := by omega
                  go_wp2_with (first
                    | (go_at_call 22; refine HR.out.mono ?_; rintro e w16 ⟨rfl, X16, hS16⟩; replace hS16 := Lib.hid hS16)
                    | (go_at_call 20; refine (HI1.out _ _ hS16.out).mono ?_; rintro e w17 ⟨b1, rfl, hbb1, hS17⟩; obtain rfl : b1 = true := hbb1.2 hMh.out; clear hbb1; replace hS17 := Lib.hid hS17))
                  all_goals (go_ret; exact ⟨rfl, hg1.out.trans' hS17.out.sv.gr⟩)
              · obtain ⟨hGo, hdf⟩ : G = gs.map FlR.fl ∧ (e2 == 0) = false := by
                  rcases hG.out with h | h
                  · exact h
                  · exact absurd (hb1.out h) hM
                have hGo := Lib.hid hGo
                have hMh := Lib.hid hM
                clear hM
                rcases hex with hex | hex
                · obtain rfl : j = n4 := by omega
                  have hjj : ¬ ((j : Int) < j) := by omega
                  go_wp2_with (first
                    | (go_at_call 22; refine HR.out.mono ?_; rintro e w16 ⟨rfl, X16, hS16⟩; replace hS16 := Lib.hid hS16)
                    | (go_at_call 20; refine (HI2.out _ _ hS17.out).mono ?_; rintro e w18 ⟨b2, rfl, hbb2, hS18⟩; obtain rfl : b2 = true := hbb2.2 (hb2.out hGo.out); clear hbb2; replace hS18 := Lib.hid hS18)
                    | (go_at_call 20; refine (HI1.out _ _ hS16.out).mono ?_; rintro e w17 ⟨b1, rfl, hbb1, hS17⟩; obtain rfl : b1 = false := (by cases b1; rfl; exact absurd (hbb1.1 rfl) hMh.out); clear hbb1; replace hS17 := Lib.hid hS17))
                  all_goals (go_ret; exact ⟨rfl, hg1.out.trans' hS18.out.sv.gr⟩)
                · subst hex
                  have hjj : ¬ (((6 : Nat) : Int) < 6) := by omega
                  go_wp2_with (first
                    | (go_at_call 22; refine HR.out.mono ?_; rintro e w16 ⟨rfl, X16, hS16⟩; replace hS16 := Lib.hid hS16)
                    | (go_at_call 20; refine (HI2.out _ _ hS17.out).mono ?_; rintro e w18 ⟨b2, rfl, hbb2, hS18⟩; obtain rfl : b2 = true := hbb2.2 (hb2.out hGo.out); clear hbb2; replace hS18 := Lib.hid hS18)
                    | (go_at_call 20; refine (HI1.out _ _ hS16.out).mono ?_; rintro e w17 ⟨b1, rfl, hbb1, hS17⟩; obtain rfl : b1 = false := (by cases b1; rfl; exact absurd (hbb1.1 rfl) hMh.out); clear hbb1; replace hS17 := Lib.hid hS17))
                  all_goals (go_ret; exact ⟨rfl, hg1.out.trans' hS18.out.sv.gr⟩)
        · have h0' : (n0 == 0) = false := by simpa using h0
          go_enter Try.func8, Try.ntmps8
          go_wp2_with (first
            | (go_at_call 10; refine HK.out.mono ?_; rintro e w1 ⟨rfl, hg1⟩; replace hg1 := Lib.hid hg1)
            | (go_at_call 11; refine (HF'.out _ hg2.out).mono ?_; rintro e w3 ⟨rfl, hw3⟩; replace hw3 := hw3.symm; subst hw3)
            | (go_at_call 11; refine (HF.out _ hg1.out).mono ?_; rintro e w2 ⟨rfl, hw2⟩; replace hw2 := hw2.symm; subst hw2; have hg2 := hg1)
            | (go_at_call 16; refine (HN.out _).mono ?_; rintro e w4 ⟨p, X4, rfl, hS4⟩; replace hS4 := Lib.hid hS4)
            | (go_at_call 12; refine (HG2'.out _ hg5.out.2).mono ?_; rintro e w6 ⟨A6, c6, hs, rfl, l2, k2, hf6, g2, b2, hg6⟩
               obtain ⟨l1, k1, hf5, g1, b1, hg45⟩ := hF5.out
               have HY := Lib.hid (rdy_mk hg1.out hS4.out hf5 hg45 hf6 hg6 l1 l2 k1 k2 g1 g2 b1 b2 (by omega) (by omega))
               clear l1 l2 k1 k2 hf5 hf6 g1 g2 b1 b2 hg45 hg6 hF5
               obtain ⟨k', hk'⟩ : ∃ k', k' = min n1 3 := ⟨_, rfl⟩
               rw [← hk'] at HY ⊢
               have hk1' : 1 ≤ k' := by omega
               have hk2' : k' ≤ 3 := by omega
               clear hk'
               obtain ⟨k, hk⟩ : ∃ k, k = min n0 4 := ⟨_, rfl⟩
               rw [← hk] at HY ⊢
               have hk1 : 1 ≤ k := by omega
               have hk2 : k ≤ 4 := by omega
               clear hk)
            | (go_at_call 12; refine (HG2.out _ (hg1.out.trans' hS4.out.gr)).mono ?_; rintro e w5 ⟨A5, c5, gs, rfl, l1, k1, hf5, g1, b1, hg45⟩
               have hg5 := Lib.hid (And.intro hg45 ((hg1.out.trans' hS4.out.gr).trans' hg45))
               have hF5 := Lib.hid (And.intro l1 (And.intro k1 (And.intro hf5 (And.intro g1 (And.intro b1 hg45)))))
               clear l1 k1 hf5 g1 b1 hg45)
            | (go_at_call 19; refine (HY.out.1.cm2 hS8.out ⟨show s1.ops ≤ _ from by have := hP.out.2.2.1; omega, show (1 + r16).toNat ≤ _ from by omega⟩).mono ?_; rintro e w9 ⟨X9, e2, rfl, he2, hS9⟩; replace hS9 := Lib.hid hS9; replace he2 := Lib.hid he2)
            | (go_at_call 19; refine (HY.out.1.cm1 hk1 HY.out.2).mono ?_; rintro e w7 ⟨rfl, HP⟩; replace HP := Lib.hid HP)
            | (go_at_call 15; refine (HW1.out _).mono ?_; rintro e w7' ⟨rfl, hw7⟩; subst hw7; obtain ⟨X7, s1, hS7, q1, q2, q3, q4⟩ := HP.out; have hP := Lib.hid (And.intro q1 (And.intro q2 (And.intro q3 q4))); replace hS7 := Lib.hid hS7; clear q1 q2 q3 q4)
            | (go_at_call 25; refine (sz_stop hS7.out (1 + r16)).mono ?_; rintro e w8 ⟨rfl, hS8⟩; replace hS8 := Lib.hid hS8)
            | (go_at_call 26; refine (sz_crash hS9.out (HY.out.1.sm2 (by have := hP.out.2.2.1; exact this) (by omega)) n3 c3 x3 hn3 (hr3.out.gr hg1.out) (by omega)).mono ?_; rintro e w10 ⟨rfl, X10, hS10⟩; replace hS10 := Lib.hid hS10))
          have hIn := Lib.hid (HY.out.1.ins1 (n := 1 + r16) (ks := x3) hP.out.1 hP.out.2.1 he2.out)
          have hop := Lib.hid (HY.out.1.ops1 (n := 1 + r16) (ks := x3) hP.out.2.2.1)
          clear hP hS9 he2 HW1
          generalize (V.crash (commitM (V.stopAt s1 (1 + r16)) (hs.map FlR.fl)).1 x3) = v10 at hS10 hIn hop
          go_loopw [17] (fun i wr => ∃ j : Nat, i = .int .i64 j ∧ j ≤ 6 ∧ j ≤ n4 ∧ ∃ X v, Hid (Sz w1 w6 X4 wr X p v) ∧ Hid (Ins (gs.map FlR.fl) (hs.map FlR.fl) (e2 == 0) v) ∧ Hid (v.ops ≤ 60 + 20 * j ∧ v.stop = 0)) (fun i _ => 6 - (intOf i).toNat)
          case atStart => exact ⟨0, rfl, by omega, by omega, X10, v10, hS10, hIn, hop⟩
          case round =>
            obtain ⟨j, rfl, hj6, hj4, X11, v11, hS11, hI11, ho11⟩ := hrel
            by_cases hlt : j < n4 ∧ j < 6
            · obtain ⟨hA, hB⟩ := hlt
              have hjl : j < x4.length := by have := hn4.out; omega
              obtain ⟨ad, rfl, hc⟩ := ((hr4.out.gr hg1.out).gr hS11.out.sv.gr).at_ (k := j) (by simpa using hjl)
              simp only [List.getElem_map, iv] at hc
              have hbj := hb4.out _ (List.getElem_mem hjl)
              generalize x4[j] = y at *
              have hr9 : 0 ≤ y % 9 ∧ y % 9 < 9 := ⟨Int.emod_nonneg _ (by omega), Int.emod_lt_of_pos _ (by omega)⟩
              have HW9 := Lib.hid (fun W => within1_any y 9 W hbj.1 hbj.2 (by omega) (by omega))
              generalize y % 9 = r9 at *
              obtain ⟨r9a, r9b⟩ := hr9
              go_wp2_with (first
                | (go_at_call 15; refine (HW9.out _).mono ?_; rintro e w12 ⟨rfl, hw12⟩; subst hw12)
                | (go_at_call 25; refine (sz_stop hS11.out (1 + r9)).mono ?_; rintro e w13 ⟨rfl, hS13⟩; replace hS13 := Lib.hid hS13)
                | (go_at_call 22; refine (sz_recover hS13.out ⟨show v11.ops ≤ _ from by have := ho11.out.1; omega, show (1 + r9).toNat ≤ _ from by omega⟩).mono ?_; rintro e w14 ⟨rfl, X14, hS14⟩; replace hS14 := Lib.hid hS14)
                | (go_at_call 26; refine (sz_crash hS14.out ⟨by have := (recoverM_ops (v11.stopAt (1 + r9))).1; have := ho11.out.1; have : (v11.stopAt (1 + r9)).ops = v11.ops := rfl; omega, by have := (recoverM_ops (v11.stopAt (1 + r9))).2; have : (v11.stopAt (1 + r9)).stop = (1 + r9).toNat := rfl; omega⟩ n5 C5 x5 hn5 (hr5.out.gr hg1.out) (by omega)).mono ?_; rintro e w15 ⟨rfl, X15, hS15⟩; replace hS15 := Lib.hid hS15))
              go_roundw
              case rel => exact ⟨j + 1, by go_num, by omega, by omega, X15, _, hS15, Lib.hid (ins_recover hI11.out HY.out.1.g1 HY.out.1.g2 HY.out.1.len2 (1 + r9) x5), Lib.hid ⟨by show (recoverM (v11.stopAt (1 + r9))).1.ops ≤ _; have := (recoverM_ops (v11.stopAt (1 + r9))).1; have := ho11.out.1; have : (v11.stopAt (1 + r9)).ops = v11.ops := rfl; omega, rfl⟩⟩
              case measure => simp [intOf]; omega
            · obtain ⟨v', G, hR, hG, hcG⟩ := ins_last hI11.out HY.out.1.g1 HY.out.1.g2 HY.out.1.len2 ho11.out.2
              have hro := recoverM_ops v11
              have HR := Lib.hid (sz_recover hS11.out ⟨by have := ho11.out.1; omega, by have := ho11.out.2; omega⟩)
              rw [hR] at HR hro
              have hsm : Sm v' := ⟨by have := ho11.out.1; simp only at hro; omega, by have := ho11.out.2; simp only at hro; omega⟩
              have HI1 := Lib.hid (fun W X (hS : Sz w1 w6 X4 W X p v') => HY.out.1.is1 hS hsm hcG.live)
              have HI2 := Lib.hid (fun W X (hS : Sz w1 w6 X4 W X p v') => HY.out.1.is2 hS hsm hcG.live)
              have hb1 := Lib.hid (show G = bothF (gs.map FlR.fl) (hs.map FlR.fl) → IsM v'.now (gs.map FlR.fl) (hs.map FlR.fl) from fun h => by rw [hcG.now, h]; exact isM_both HY.out.1.g1 HY.out.1.g2)
              have hb2 := Lib.hid (show G = gs.map FlR.fl → IsM v'.now (gs.map FlR.fl) [] from fun h => by rw [hcG.now, h]; exact isM_both HY.out.1.g1 Gd.nil)
              clear hro hR hI11 hcG hsm
              have hG := Lib.hid hG
              have hex : n4 ≤ j ∨ j = 6 := by omega
              clear hlt
              by_cases hM : IsM v'.now (gs.map FlR.fl) (hs.map FlR.fl)
              · have hMh := Lib.hid hM
                clear hM
                rcases hex with hex | hex
                · obtain rfl : j = n4 := by omega
                  have hjj : ¬ ((j : Int) < j) := by omega
                  go_wp2_with (first
                    | (go_at_call 22; refine HR.out.mono ?_; rintro e w16 ⟨rfl, X16, hS16⟩; replace hS16 := Lib.hid hS16)
                    | (go_at_call 20; refine (HI1.out _ _ hS16.out).mono ?_; rintro e w17 ⟨b1, rfl, hbb1, hS17⟩; obtain rfl : b1 = true := hbb1.2 hMh.out; clear hbb1; replace hS17 := Lib.hid hS17))
                  all_goals (go_ret; exact ⟨rfl, hg1.out.trans' hS17.out.sv.gr⟩)
                · subst hex
                  have hjj : ¬ (((6 : Nat) : Int) < 6) := by omega
                  go_wp2_with (first
                    | (go_at_call 22; refine HR.out.mono ?_; rintro e w16 ⟨rfl, X16, hS16⟩; replace hS16 := Lib.hid hS16)
                    | (go_at_call 20; refine (HI1.out _ _ hS16.out).mono ?_; rintro e w17 ⟨b1, rfl, hbb1, hS17⟩; obtain rfl : b1 = true := hbb1.2 hMh.out; clear hbb1; replace hS17 := Lib.hid hS17))
                  all_goals (go_ret; exact ⟨rfl, hg1.out.trans' hS17.out.sv.gr⟩)
              · obtain ⟨hGo, hdf⟩ : G = gs.map FlR.fl ∧ (e2 == 0) = false := by
                  rcases hG.out with h | h
                  · exact h
                  · exact absurd (hb1.out h) hM
                have hGo := Lib.hid hGo
                have hMh := Lib.hid hM
                clear hM
                rcases hex with hex | hex
                · obtain rfl : j = n4 := by omega
                  have hjj : ¬ ((j : Int) < j) := by omega
                  go_wp2_with (first
                    | (go_at_call 22; refine HR.out.mono ?_; rintro e w16 ⟨rfl, X16, hS16⟩; replace hS16 := Lib.hid hS16)
                    | (go_at_call 20; refine (HI2.out _ _ hS17.out).mono ?_; rintro e w18 ⟨b2, rfl, hbb2, hS18⟩; obtain rfl : b2 = true := hbb2.2 (hb2.out hGo.out); clear hbb2; replace hS18 := Lib.hid hS18)
                    | (go_at_call 20; refine (HI1.out _ _ hS16.out).mono ?_; rintro e w17 ⟨b1, rfl, hbb1, hS17⟩; obtain rfl : b1 = false := (by cases b1; rfl; exact absurd (hbb1.1 rfl) hMh.out); clear hbb1; replace hS17 := Lib.hid hS17))
                  all_goals (go_ret; exact ⟨rfl, hg1.out.trans' hS18.out.sv.gr⟩)
                · subst hex
                  have hjj : ¬ (((6 : Nat) : Int) < 6) := by omega
                  go_wp2_with (first
                    | (go_at_call 22; refine HR.out.mono ?_; rintro e w16 ⟨rfl, X16, hS16⟩; replace hS16 := Lib.hid hS16)
                    | (go_at_call 20; refine (HI2.out _ _ hS17.out).mono ?_; rintro e w18 ⟨b2, rfl, hbb2, hS18⟩; obtain rfl : b2 = true := hbb2.2 (hb2.out hGo.out); clear hbb2; replace hS18 := Lib.hid hS18)
                    | (go_at_call 20; refine (HI1.out _ _ hS16.out).mono ?_; rintro e w17 ⟨b1, rfl, hbb1, hS17⟩; obtain rfl : b1 = false := (by cases b1; rfl; exact absurd (hbb1.1 rfl) hMh.out); clear hbb1; replace hS17 := Lib.hid hS17))
                  all_goals (go_ret; exact ⟨rfl, hg1.out.trans' hS18.out.sv.gr⟩)
    · have hdt : decide (FewM x1) = false := decide_eq_false hfw
      rw [hdt] at HF'
      go_enter Try.func8, Try.ntmps8
      go_wp2_with (first
        | (go_at_call 10; refine HK.out.mono ?_; rintro e w1 ⟨rfl, hg1⟩; replace hg1 := Lib.hid hg1)
        | (go_at_call 11; refine (HF'.out _ hg2.out).mono ?_; rintro e w3 ⟨rfl, hw3⟩; replace hw3 := hw3.symm; subst hw3)
        | (go_at_call 11; refine (HF.out _ hg1.out).mono ?_; rintro e w2 ⟨rfl, hw2⟩; replace hw2 := hw2.symm; subst hw2; have hg2 := hg1))
      go_ret
      exact ⟨rfl, hg1.out⟩
  · have hdt : decide (FewM x0) = false := decide_eq_false hfw
    rw [hdt] at HF
    go_enter Try.func8, Try.ntmps8
    go_wp2_with (first
      | (go_at_call 10; refine HK.out.mono ?_; rintro e w1 ⟨rfl, hg1⟩; replace hg1 := Lib.hid hg1)
      | (go_at_call 11; refine (HF.out _ hg1.out).mono ?_; rintro e w2 ⟨rfl, hw2⟩; replace hw2 := hw2.symm; subst hw2; have hg2 := hg1))
    go_ret
    exact ⟨rfl, hg1.out⟩
end Go.Proofs.Ytcfbkhgdlgnmgaa.commitWhole
set_option linter.unusedVariables false
set_option linter.unusedSimpArgs false
namespace Go.Proofs.Ytcfbkhgdlgnmgaa.commitWhole
open Go.ChangeShapes Go.WideShapes Go.ChangeAt Go.RowKit
open Go.ChangeMaps (open_string shut_string)
theorem own : ownKnob Try.prog.godebug = none := by kernel_rfl
theorem laidOut : laidOutB Try.prog = true := by kernel_rfl
set_option maxRecDepth 100000 in
theorem lifted (os : Os) (started : os.Started) (H : Type) (enc : TypeId × Value → H) :
    ReturnsInHanded {} Try.checked os 8 .any (Rows.commitWholeSpec.pre6 enc Try.prog Try.f8 Rows.commitWholeRow.domain false) (Rows.commitWholeSpec.post enc Try.prog Try.f8 false true false false) := by
  refine returnsInHanded_of_change (C := Try.checked) own started (by kernel_rfl) Try.func8
    (ChangeSpec.witness6 (enc := enc) (C := Try.checked) false ⟨#[], #[.slice none 0 0, .slice none 0 0, .int .i64 0, .slice none 0 0, .slice none 0 0, .slice none 0 0], []⟩ 8 (by kernel_rfl) (by kernel_rfl) (by kernel_rfl) (by kernel_rfl)) ?_
  intro W base args ds gs before hval0 hW hcnd _
  have hval : ∀ (j : Nat) t v, Try.f8.params[j]? = some t → args[j]? = some v → Value.okWide Try.prog W .any base t v := hval0
  have hW' := hW
  obtain ⟨p, q, hA0, hV, rfl, hfz, hnd⟩ := hW
  have hA : DataW.TrodAll enc Try.prog W 0 (fun _ => true) true Try.f8.params.toList args.toList ds p := hA0
  rw [Try.params8] at hA hval
  obtain ⟨v0, vs0, d0, ds0, p0, q0, hargs, rfl, rfl, h0, r0⟩ := trodAll_cons hA
  obtain ⟨v1, vs1, d1, ds1, p1, q1, rfl, rfl, rfl, h1, r1⟩ := trodAll_cons r0
  obtain ⟨v2, vs2, d2, ds2, p2, q2, rfl, rfl, rfl, h2, r2⟩ := trodAll_cons r1
  obtain ⟨v3, vs3, d3, ds3, p3, q3, rfl, rfl, rfl, h3, r3⟩ := trodAll_cons r2
  obtain ⟨v4, vs4, d4, ds4, p4, q4, rfl, rfl, rfl, h4, r4⟩ := trodAll_cons r3
  obtain ⟨v5, vs5, d5, ds5, p5, q5, rfl, rfl, rfl, h5, r5⟩ := trodAll_cons r4
  obtain ⟨rfl, rfl, rfl⟩ := trodAll_nil r5
  obtain rfl : args = #[v0, v1, v2, v3, v4, v5] := by cases args; simp_all
  obtain ⟨rfl, rfl⟩ := trodVars_none hV
  have lt0 : ∀ x ∈ p0, x.block < W.heap.size := by obtain ⟨m, hm⟩ := h0; exact DataW.trod_lt m _ _ _ hm
  have k0 := h0
  have lt1 : ∀ x ∈ p1, x.block < W.heap.size := by obtain ⟨m, hm⟩ := h1; exact DataW.trod_lt m _ _ _ hm
  have k1 := h1
  have lt2 : ∀ x ∈ p2, x.block < W.heap.size := by obtain ⟨m, hm⟩ := h2; exact DataW.trod_lt m _ _ _ hm
  have k2 := h2
  have lt3 : ∀ x ∈ p3, x.block < W.heap.size := by obtain ⟨m, hm⟩ := h3; exact DataW.trod_lt m _ _ _ hm
  have k3 := h3
  have lt4 : ∀ x ∈ p4, x.block < W.heap.size := by obtain ⟨m, hm⟩ := h4; exact DataW.trod_lt m _ _ _ hm
  have k4 := h4
  have lt5 : ∀ x ∈ p5, x.block < W.heap.size := by obtain ⟨m, hm⟩ := h5; exact DataW.trod_lt m _ _ _ hm
  have k5 := h5
  obtain ⟨a0, n0, c0, rfl⟩ := okWide_slice Try.underlying22 (hval 0 22 v0 rfl rfl)
  obtain ⟨x0, hn0, hf0, hl0, hc0⟩ := open_files h0
  obtain ⟨a1, n1, c1, rfl⟩ := okWide_slice Try.underlying22 (hval 1 22 v1 rfl rfl)
  obtain ⟨x1, hn1, hf1, hl1, hc1⟩ := open_files h1
  obtain ⟨x2, rfl, _, _, w2⟩ := open_int Try.underlying3 (hval 2 3 v2 rfl rfl) h2
  obtain ⟨a3, n3, c3, rfl⟩ := okWide_slice Try.underlying49 (hval 3 49 v3 rfl rfl)
  obtain ⟨x3, hn3, hr3, hb3, hl3, hc3⟩ := open_nums Try.underlying49 Try.underlying3 (by kernel_rfl) h3
  obtain ⟨a4, n4, c4, rfl⟩ := okWide_slice Try.underlying49 (hval 4 49 v4 rfl rfl)
  obtain ⟨x4, hn4, hr4, hb4, hl4, hc4⟩ := open_nums Try.underlying49 Try.underlying3 (by kernel_rfl) h4
  obtain ⟨a5, n5, c5, rfl⟩ := okWide_slice Try.underlying49 (hval 5 49 v5 rfl rfl)
  obtain ⟨x5, hn5, hr5, hb5, hl5, hc5⟩ := open_nums Try.underlying49 Try.underlying3 (by kernel_rfl) h5
  clear hA0 hval0
  refine (walk W a0 n0 c0 x0 hn0 hf0 hl0 hc0 a1 n1 c1 x1 hn1 hf1 hl1 hc1 x2 (int_bounds w2).1 (int_bounds w2).2 a3 n3 c3 x3 hn3 hr3 hb3 hl3 hc3 a4 n4 c4 x4 hn4 hr4 hb4 hl4 hc4 a5 n5 c5 x5 hn5 hr5 hb5 hl5 hc5).mono fun e W' ⟨he, bel⟩ => ?_
  subst he
  exact ⟨_, rfl, _, _, _, [], _, [], hW', trodAll_mk1 (shut_bool Try.underlying4 _), (trodAll_cons_mk (Below.trod laidOut (by kernel_rfl) (of_decide_eq_true (by kernel_rfl)) k0 bel lt0) (trodAll_cons_mk (Below.trod laidOut (by kernel_rfl) (of_decide_eq_true (by kernel_rfl)) k1 bel lt1) (trodAll_cons_mk (Below.trod laidOut (by kernel_rfl) (of_decide_eq_true (by kernel_rfl)) k2 bel lt2) (trodAll_cons_mk (Below.trod laidOut (by kernel_rfl) (of_decide_eq_true (by kernel_rfl)) k3 bel lt3) (trodAll_cons_mk (Below.trod laidOut (by kernel_rfl) (of_decide_eq_true (by kernel_rfl)) k4 bel lt4) (trodAll_cons_mk (Below.trod laidOut (by kernel_rfl) (of_decide_eq_true (by kernel_rfl)) k5 bel lt5) trodAll_mk0)))))), rfl, bel.frame _, fun h => by cases h⟩
theorem over : Rows.commitWholeRow.holds Try.pinned (OpenSpec.ofChange Rows.commitWholeSpec) :=
  OpenClaim.holds_of_wide 8 Try.f8 rfl rfl rfl rfl rfl rfl rfl ⟨rfl, rfl, rfl, rfl, rfl⟩ rfl rfl rfl rfl rfl (by kernel_rfl) Try.func8 (by kernel_rfl)
    (of_decide_eq_true (by kernel_rfl)) (by unfold Func.isWrapper; first | (rw [if_pos (by decide +kernel)]; kernel_rfl) | (rw [if_neg (by decide +kernel)]; exact ⟨rfl, rfl⟩))
    (fun os started H enc _ => lifted os started H enc)
theorem proved : Rows.CommitWholeSaid := over
#print axioms proved
end Go.Proofs.Ytcfbkhgdlgnmgaa.commitWhole
