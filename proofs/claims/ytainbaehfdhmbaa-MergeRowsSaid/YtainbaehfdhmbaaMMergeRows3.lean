/- Texts on the way to 'MergeRows', one behind the other (part 3). -/
import Derived.Test.YtainbaehfdhmbaaMMergeRows2
import Derived.Test.YtainbaehfdhmbaaMMergeRows1
set_option linter.unusedVariables false
set_option linter.unusedSimpArgs false
namespace Go.Proofs.Ytainbaehfdhmbaa.PX
open Go.RowKit Go.Proofs.YtainbaehfdhmbaaW.PrintWords Go.Proofs.YtainbaehfdhmbaaW.PrintLast Go.Proofs.YtainbaehfdhmbaaW.PrintMore Go.Proofs.Ytainbaehfdhmbaa Go.Shelf
def me7T : Bool × List (List Nat × List Nat) := (true, [([], []), ([], []), ([1], [1]), ([2], [2]), ([3], [3]), ([], []), ([], []), ([4, 5, 6], [4, 5, 6]), ([], []), ([8], [8]), ([], []), ([9, 10, 7], [9, 10]), ([], []), ([12], [12]), ([], []), ([13, 14, 11], [13, 14]), ([], []), ([16], [16]), ([], []), ([17, 18, 15], [17, 18]), ([11, 15, 19], [11, 15, 19]), ([0, 7, 20, 19], [0, 7, 20]), ([], []), ([22, 21, 21, 0, 1, 2, 3, 4, 5, 6, 7, 8, 9, 10, 11, 12, 13, 14, 15, 16, 17, 18, 19, 20, 21, 22], [21, 22])])
def me7B : List Nat := [0, 0, 2, 6, 14, 0, 0, 126, 0, 256, 0, 2046, 0, 4096, 0, 32766, 0, 65536, 0, 524286, 1048574, 2097151, 0, 8388607]
theorem me7_tab : rtab .any (opsOf Try.f31 7) = me7T := by kernel_rfl
theorem me7_bits : waitsOk me7T.2 me7B = true := by kernel_rfl
def me8T : Bool × List (List Nat × List Nat) := (true, [([], []), ([], []), ([1], [1]), ([2], [2]), ([3], [3]), ([], []), ([5], [5]), ([6], [6]), ([7], [7]), ([8], [8]), ([9], [9]), ([4, 10], [4, 10]), ([0, 0, 1, 2, 3, 4, 5, 6, 7, 8, 9, 10, 11], [0]), ([12, 0, 1, 2, 3, 4, 5, 6, 7, 8, 9, 10, 11], [12]), ([13, 11, 0, 1, 2, 3, 4, 5, 6, 7, 8, 9, 10, 11], [11, 13])])
def me8B : List Nat := [0, 0, 2, 6, 14, 0, 32, 96, 224, 480, 992, 2046, 4095, 8191, 16383]
theorem me8_tab : rtab .any (opsOf Try.f31 8) = me8T := by kernel_rfl
theorem me8_bits : waitsOk me8T.2 me8B = true := by kernel_rfl
def me9T : Bool × List (List Nat × List Nat) := (true, [([], []), ([0], [0]), ([], []), ([], []), ([3], [3]), ([1, 2, 4], [1, 2, 4]), ([], []), ([6], [6]), ([], []), ([], []), ([9], [9]), ([7, 8, 10, 5], [7, 8, 10]), ([], []), ([12], [12]), ([], []), ([], []), ([15], [15]), ([13, 14, 16, 11], [13, 14, 16]), ([5, 11, 17], [5, 11, 17]), ([18, 17, 0, 1, 2, 3, 4, 5, 6, 7, 8, 9, 10, 11, 12, 13, 14, 15, 16, 17, 18], [18])])
def me9B : List Nat := [0, 1, 0, 0, 8, 31, 0, 64, 0, 0, 512, 2047, 0, 4096, 0, 0, 32768, 131071, 262143, 524287]
theorem me9_tab : rtab .any (opsOf Try.f31 9) = me9T := by kernel_rfl
theorem me9_bits : waitsOk me9T.2 me9B = true := by kernel_rfl
set_option maxHeartbeats 8000000 in
set_option maxRecDepth 100000 in
theorem edges_calls {wd k : Nat} (IH : MergeSpec wd k) (hw1 : 1 ≤ wd) {w : World} {gm base : Nat} {As : Option Addr} {cs : Nat} {s : Sc} {vl vp : Value} {l : List Cf} {p : List ByteArray} {o a b : OT} {vo va vb : Value} {Q : Nat → Prop} (d : Int) (h : MIn w gm base As cs s vl vp l p o a b vo va vb Q wd (k + 1)) :
    Calls Try.prog 31 #[.pointer (some ⟨gm, 0, none⟩), .int .i64 d, .agg #[.bool o.1, vo, .bool a.1, va, .bool b.1, vb]] w (MPost w gm base As cs s vl vp l p Q (((true, (edgesM (mergeM s k) s d p o a b).1.1), (true, (edgesM (mergeM s k) s d p o a b).1.2.1), (true, (edgesM (mergeM s k) s d p o a b).1.2.2)), (edgesM (mergeM s k) s d p o a b).2)) := by
  obtain ⟨hst, hbs, hok, hsc, hsf, ho, ha, hb_, hq, hoo, hoa, hob, hwd, hnl, hnp⟩ := h
  obtain ⟨Ao, co, rfl⟩ := Kd.V_slice ho
  obtain ⟨Aa, ca, rfl⟩ := Kd.V_slice ha
  obtain ⟨Ab, cb, rfl⟩ := Kd.V_slice hb_
  have VO := Aside0.mk ho
  have VA := Aside0.mk ha
  have VB := Aside0.mk hb_
  have LO := Aside0.mk (Kd.V_reads' ho).2.1
  have LA := Aside0.mk (Kd.V_reads' ha).2.1
  have LB := Aside0.mk (Kd.V_reads' hb_).2.1
  have SF := Aside0.mk hsf
  have ST := Aside0.mk hst
  have HQ := Aside0.mk hq
  have HOK := Aside0.mk hok
  have HNL := Aside0.mk hnl
  have HNP := Aside0.mk hnp
  obtain ⟨y23, Y23_⟩ : ∃ y : List (List S51), y = [o.2, a.2, b.2] := ⟨_, rfl⟩
  have Y23 := Aside0.mk Y23_
  have hns : ([o.2, a.2, b.2].flatMap nms).length ≤ 3 * wd := by
    have h1 := hoo.1.length
    have h2 := hoa.1.length
    have h3 := hob.1.length
    simp only [nms, List.flatMap_cons, List.flatMap_nil, List.length_append, List.length_map, List.length_nil]
    omega
  obtain ⟨KN, hkn⟩ := (treeNames_ev [o.2, a.2, b.2] (by simp) (by omega)).rounds
  obtain ⟨ns, Hns_⟩ : ∃ y, y = namesOf [o.2, a.2, b.2] := ⟨_, rfl⟩
  have hkn2 := Aside0.mk (show tree_Names.f KN y23 = some ns by rw [Y23_, Hns_]; exact hkn)
  have LN : ns.length ≤ 3 * wd := by rw [Hns_]; exact Nat.le_trans (namesOf_length _) hns
  have Hns := Aside0.mk Hns_
  clear ho ha hb_ hst hq hsf hok hnl hnp Y23_ hns hkn Hns_
  have hu := Try.underlying65
  have hu2 := Try.underlying26
  have hu3 := Try.underlying63
  have hu4 := Try.underlying84
  have HB := Aside0.mk (Below.refl w.heap.size w)
  go_enter Try.func31, Try.ntmps31
  go_wp2_with (first
    | ((with_reducible refine gate_dst (N := 5) rfl ?_); refine box_event ?hg (N := 5) ?hd (cs := #[.bool o.1, .slice Ao o.2.length co, .bool a.1, .slice Aa a.2.length ca, .bool b.1, .slice Ab b.2.length cb]) (t := 65) ?hr ?_; (case hd => rfl); (case hg => rfl); (case hr => first | (go_simp; done) | (go_simp; rfl)); intro gb5 hg w5 hbox hb; have G_gb5 := Aside0.mk (show w.heap.size ≤ gb5 from by rw [hg]; exact HB.out.size); have NB := Aside0.mk (below_step HB.out hb); clear HB; have HB := NB; clear NB; have BK5 := Aside0.mk hbox; clear hbox hg hb)
    | ((with_reducible refine gate_dst (N := 6) rfl ?_); refine box_event ?hg (N := 6) ?hd (cs := #[.bool false, .slice none 0 0, .bool false, .slice none 0 0, .bool false, .slice none 0 0]) (t := 65) ?hr ?_; (case hd => rfl); (case hg => rfl); (case hr => first | (go_simp; done) | (go_simp; rfl)); intro gb6 hg w6 hbox hb; have N_BK5 := Aside0.mk (blk_below BK5.out hb); clear BK5; have BK5 := N_BK5; clear N_BK5; have G_gb6 := Aside0.mk (show w.heap.size ≤ gb6 from by rw [hg]; exact HB.out.size); have NB := Aside0.mk (below_step HB.out hb); clear HB; have HB := NB; clear NB; have BK6 := Aside0.mk hbox; clear hbox hg hb)
    | ((with_reducible refine gate_dst (N := 7) rfl ?_); refine box_event ?hg (N := 7) ?hd (cs := #[.slice none 0 0, .slice none 0 0, .slice none 0 0]) (t := 84) ?hr ?_; (case hd => rfl); (case hg => rfl); (case hr => first | (go_simp; done) | (go_simp; rfl)); intro gb7 hg w7 hbox hb; have N_BK5 := Aside0.mk (blk_below BK5.out hb); clear BK5; have BK5 := N_BK5; clear N_BK5; have N_BK6 := Aside0.mk (blk_below BK6.out hb); clear BK6; have BK6 := N_BK6; clear N_BK6; have G_gb7 := Aside0.mk (show w.heap.size ≤ gb7 from by rw [hg]; exact HB.out.size); have NB := Aside0.mk (below_step HB.out hb); clear HB; have HB := NB; clear NB; have BK7 := Aside0.mk hbox; clear hbox hg hb; have x0 : w7.cell? ⟨gb5, 0, none⟩ = some (.bool o.1) := (blk_cell BK5.out 0).trans rfl; have x1 : w7.cell? ⟨gb5, 1, none⟩ = some (.slice Ao o.2.length co) := (blk_cell BK5.out 1).trans rfl; have x2 : w7.cell? ⟨gb5, 2, none⟩ = some (.bool a.1) := (blk_cell BK5.out 2).trans rfl; have x3 : w7.cell? ⟨gb5, 3, none⟩ = some (.slice Aa a.2.length ca) := (blk_cell BK5.out 3).trans rfl; have x4 : w7.cell? ⟨gb5, 4, none⟩ = some (.bool b.1) := (blk_cell BK5.out 4).trans rfl; have x5 : w7.cell? ⟨gb5, 5, none⟩ = some (.slice Ab b.2.length cb) := (blk_cell BK5.out 5).trans rfl)
    | ((with_reducible refine gate_dst (N := 23) rfl ?_); refine lit_event (Kd.slice 51 k51) 24 ?hg (N := 23) ?hd (xs := [o.2, a.2, b.2]) (ys := y23) (inner := [.slice Ao o.2.length co, .slice Aa a.2.length ca, .slice Ab b.2.length cb]) Y23.out ?hr ?hp ?hm ?_; (case hd => rfl); (case hg => rfl); (case hm => simp); (case hr => first | (go_simp; done) | (go_simp; rfl)); (case hp => exact (Reps.one (show (Kd.slice 51 k51).K _ o.2 [.slice Ao o.2.length co] from ⟨_, _, rfl, LO.out, (Kd.V_reads' (Kd.V_below VO.out HB.out)).2.2⟩) (Reps.one (show (Kd.slice 51 k51).K _ a.2 [.slice Aa a.2.length ca] from ⟨_, _, rfl, LA.out, (Kd.V_reads' (Kd.V_below VA.out HB.out)).2.2⟩) (Reps.one (show (Kd.slice 51 k51).K _ b.2 [.slice Ab b.2.length cb] from ⟨_, _, rfl, LB.out, (Kd.V_reads' (Kd.V_below VB.out HB.out)).2.2⟩) (Reps.none _ _))))); intro A23 w8 hF hb; have F23 := Aside0.mk hF; have N5 := Aside0.mk (blk_below BK5.out hb); have N6 := Aside0.mk (blk_below BK6.out hb); have N7 := Aside0.mk (blk_below BK7.out hb); have NB := Aside0.mk (below_step HB.out hb); clear HB BK5 BK6 BK7 hb hF; have HB := NB; have BK5 := N5; have BK6 := N6; have BK7 := N7; clear NB N5 N6 N7)
    | ((with_reducible refine gate_callee (f := 36) rfl ?_); refine goesL_ (some 24) rfl rfl Try.func36 (by kernel_rfl) rfl #[.slice A23 y23.length y23.length] rfl (by (try simp only [List.map_toArray, List.map_cons, List.map_nil]); first | done | rfl) ?_; (with_reducible refine (tree_Names.calls KN A23 _ y23 ns _ F23.out (Nat.le_refl _) hkn2.out).mono ?_); rintro e_ w9 ⟨v24, rfl, ho_, hb⟩; refine ⟨_, rfl, ?_⟩; have L6 := Aside0.mk (blk_lt BK6.out); have L7 := Aside0.mk (blk_lt BK7.out); have SZ8 := Aside0.mk HB.out.size; obtain ⟨A24, c24, rfl⟩ := Kd.R_slice ho_; have VN := Aside0.mk ho_; have N5 := Aside0.mk (blk_below BK5.out hb); have N6 := Aside0.mk (blk_below BK6.out hb); have N7 := Aside0.mk (blk_below BK7.out hb); have NB := Aside0.mk (below_step HB.out hb); clear HB BK5 BK6 BK7 hb ho_ F23 x0 x1 x2 x3 x4 x5; have HB := NB; have BK5 := N5; have BK6 := N6; have BK7 := N7; clear NB N5 N6 N7)
    | (go_at_call 36; (with_reducible refine (tree_Names.calls KN A23 _ y23 ns _ F23.out (Nat.le_refl _) hkn2.out).mono ?_); rintro e_ w9 ⟨v24, rfl, ho_, hb⟩; have L6 := Aside0.mk (blk_lt BK6.out); have L7 := Aside0.mk (blk_lt BK7.out); have SZ8 := Aside0.mk HB.out.size; obtain ⟨A24, c24, rfl⟩ := Kd.R_slice ho_; have VN := Aside0.mk ho_; have N5 := Aside0.mk (blk_below BK5.out hb); have N6 := Aside0.mk (blk_below BK6.out hb); have N7 := Aside0.mk (blk_below BK7.out hb); have NB := Aside0.mk (below_step HB.out hb); clear HB BK5 BK6 BK7 hb ho_ F23 x0 x1 x2 x3 x4 x5; have HB := NB; have BK5 := N5; have BK6 := N6; have BK7 := N7; clear NB N5 N6 N7))
  obtain ⟨vnv, hvnv⟩ : ∃ v, v = (.slice A24 ns.length c24 : Value) := ⟨_, rfl⟩
  have LN3 := Aside0.mk LN
  go_loopg [26] ns.length (fun gg s26 wr => ∃ i : Nat, i ≤ ns.length ∧ ns.length - i ≤ gg ∧ s26 = .int .i64 i ∧ ∃ (acc : (Tr × Tr × Tr) × List Cf) (vl' vp' uO uA uB : Value), Aside0 (EInv w wr gm base As cs s vl vp l p Q gb5 gb6 gb7 (fun k => k = gb6 ∨ k = gb7) #[.bool o.1, .slice Ao o.2.length co, .bool a.1, .slice Aa a.2.length ca, .bool b.1, .slice Ab b.2.length cb] #[uO, uA, uB] (.slice A24 ns.length c24) ns acc vl' vp' uO uA uB) ∧ Aside0 (acc = (ns.take i).foldl (stepM (mergeM s k) s d p o a b) (([], [], []), [])))
  case atStart =>
    refine ⟨0, Nat.zero_le _, by omega, rfl, (([], [], []), []), vl, vp, .slice none 0 0, .slice none 0 0, .slice none 0 0, ⟨⟨?_, BK5.out, BK6.out, BK7.out, Kd.N_nil _ _ _ _ _, Kd.N_nil _ _ _ _ _, Kd.N_nil _ _ _ _ _, ?_, ?_, Kept.of_below HB.out _, .inl rfl, .inl rfl⟩⟩, ⟨rfl⟩⟩
    · rw [List.append_nil]
      exact ST.out.below HB.out
    · refine Kd.R_mono (Kd.R_lower (Kd.R_bound VN.out) SZ8.out) (fun k hk => ?_)
      have h1 := hk.2.1
      have h2 := L6.out
      have h3 := L7.out
      have h4 := SZ8.out
      exact ⟨fun hm => by have := ST.out.ms_lt hm; omega, by omega⟩
    · exact ⟨HB.out.os, HB.out.tape, HB.out.output, HB.out.size, fun i hi => HB.out.block i (Nat.lt_of_lt_of_le hi hbs)⟩
  case round =>
    obtain ⟨i, hin, hg, rfl, acc, vl', vp', uO, uA, uB, EI, AC⟩ := hrel
    by_cases hlt : i < ns.length
    · obtain ⟨ad24, rfl, hx⟩ := Kd.at_string (Kd.R_reads' EI.out.vn).2.2 (i : Int) (by omega) (by omega)
      rw [rdOf_nat hlt] at hx
      simp only [Int.toNat_natCast] at hx
      obtain ⟨n, hn⟩ : ∃ n, n = ns[i] := ⟨_, rfl⟩
      rw [← hn] at hx
      have HNI := Aside0.mk hn
      clear hn
      obtain ⟨Ap, cp, rfl⟩ := Kd.R_slice EI.out.st.hp
      have z0 : wr.cell? ⟨gm, 0, none⟩ = some (.slice As s.length cs) := (blk_cell EI.out.st.blk 0).trans rfl
      have z1 : wr.cell? ⟨gm, 1, none⟩ = some vl' := (blk_cell EI.out.st.blk 1).trans rfl
      have z2 : wr.cell? ⟨gm, 2, none⟩ = some (.slice Ap p.length cp) := (blk_cell EI.out.st.blk 2).trans rfl
      have hltz : (i : Int) < (ns.length : Int) := by omega
      go_wp2_with ((with_reducible refine gate_builtin (b := .append) (xs := #[.tmp 34, .tmp 36]) rfl ?_); at_builtin; refine Kd.R_append Kd.string (w0 := w) base rfl (.tmp 34) (.tmp 36) 35 9 (.string ⟨#[]⟩) 16 rfl Try.underlying35 info9 rfl (by decide) (by omega) (.slice Ap p.length cp) p n [.string n] (fun _ => True) (fun _ => False) rfl rfl ?aP (fun _ hk => hk.elim) (fun _ _ => trivial) ?aO ?aB ?aS ?aL ?_; (case aP => exact rfl); (case aO => exact EI.out.st.hp); (case aB => exact EI.out.bel); (case aS => exact Nat.le_trans hbs EI.out.bel.size); (case aL => have := HNP.out; omega); intro vq w4 ho hb hg hat; obtain ⟨Aq, cq, rfl⟩ := Kd.R_slice ho; have HPQ := Aside0.mk ho; have BBQ := Aside0.mk hb; have BKg := Aside0.mk (blk_grown EI.out.st.blk hg (Kd.R_ne EI.out.st.hp EI.out.st.blk (by decide))); have HLQ := Aside0.mk (Kd.R_after (ok := fun _ => True) (Kd.R_mono EI.out.st.hl (fun _ hk => ⟨trivial, hk⟩)) hg hat); have KPQ := Aside0.mk (Kept.of_grown hg (Kept.refl wr (MS gm vl' (.slice Ap p.length cp))) (fun k hk => .inl (.inr (.inr hk.symm)))); have ATQ := Aside0.mk hat; have BWQ := Aside0.mk (World.grownBy.below_ base hg (Kd.R_base EI.out.st.hp) (Nat.le_trans hbs EI.out.bel.size)); clear ho hb hg hat z0 z1 z2; have z2 : w4.cell? ⟨gm, 2, none⟩ = some (.slice Ap p.length cp) := (blk_cell BKg.out 2).trans rfl; have hf2 := blk_frozen BKg.out 2)
      have hlen : (p ++ [n]).length = p.length + 1 := by simp
      rw [hlen] at HPQ ATQ HLQ
      have EI6 := Aside0.mk (EInv.move EI.out (KPQ.out.setCell (p := ⟨gm, 2, none⟩) (.inl (.inl rfl)) (.slice Aq (p.length + 1) cq)) (Below.setCell BWQ.out ST.out.hb (.slice Aq (p.length + 1) cq)) (p2 := p ++ [n]) (cf := acc.2) (vl2 := vl') (vp2 := .slice Aq (p.length + 1) cq)
        ⟨blk_put (cs := #[.slice As s.length cs, vl', .slice Ap p.length cp]) BKg.out 2 _ rfl, Kd.R_mono (Kd.R_far (p := ⟨gm, 2, none⟩) (Kd.R_types HLQ.out BKg.out (by decide)) (fun _ hk => hk.2) _) (fun _ hk => hk.1.2), Kd.R_mono (Kd.R_far (p := ⟨gm, 2, none⟩) (Kd.R_types HPQ.out BKg.out (by decide)) (fun _ hk => hk.2) _) (fun _ _ => trivial), ST.out.hb⟩ (.inl rfl) ATQ.out)
      clear z2 hf2 hx
      have HLEN := Aside0.mk (show l.length + acc.2.length + (3 * wd) ^ k ≤ 1000000000 from by
        have h1 := fold_len (mergeM s k) s d p o a b ((3 * wd) ^ k) (fun d' p' n => mergeM_len hw1 s k d' p' _ _ _ (hoo.kid n) (hoa.kid n) (hob.kid n)) (ns.take i) (([], [], []), [])
        rw [← AC.out] at h1
        have h2 := HNL.out
        rw [Nat.pow_succ, Nat.mul_comm] at h2
        have h3 : (i + 1) * (3 * wd) ^ k ≤ 3 * wd * (3 * wd) ^ k := Nat.mul_le_mul_right _ (by omega)
        rw [Nat.succ_mul] at h3
        rw [List.length_take, Nat.min_eq_left (by omega)] at h1
        simp only [List.length_nil, Nat.zero_add] at h1
        omega)
      generalize w4.setCell ⟨gm, 2, none⟩ (.slice Aq (p.length + 1) cq) = W6 at EI6 ⊢
      clear HPQ HLQ KPQ BWQ BBQ ATQ BKg EI
      have HBS6 := Aside0.mk (Nat.le_trans hbs EI6.out.bel.size)
      have SZ6 := Aside0.mk EI6.out.bel.size
      obtain ⟨KT, hkO⟩ := (belowO_ev (by omega) hoo n).rounds
      obtain ⟨KA, hkA⟩ := (belowO_ev (by omega) hoa n).rounds
      obtain ⟨KB, hkB⟩ := (belowO_ev (by omega) hob n).rounds
      have HKO := Aside0.mk hkO
      have HKA := Aside0.mk hkA
      have HKB := Aside0.mk hkB
      clear hkO hkA hkB
      have HQ6 := Aside0.mk (fun k (hk : Q k ∨ W6.heap.size ≤ k) => show ¬ MS gm vl' (.slice Aq (p.length + 1) cq) k from by
        rcases hk with hk | hk
        · obtain ⟨h1, h2⟩ := HQ.out k hk
          exact not_ms_step h2 h1 EI6.out.gl EI6.out.gp
        · exact fun hm => by have := EI6.out.st.ms_lt hm; omega)
      obtain ⟨rr, hrr⟩ : ∃ r, r = mergeM s k (toM s d n) (p ++ [n]) (kidO o n) (kidO a n) (kidO b n) := ⟨_, rfl⟩
      have HRR := Aside0.mk hrr
      clear hrr
      have EIc := Aside0.mk (EI6.out.newX.below HBS6.out (bD_ (Below.refl W6.heap.size W6)))
      have SZC := Aside0.mk (show W6.heap.size ≤ W6.drew.heap.size from Nat.le_refl _)
      refine start_ (n := 24) (S := fun w' => w'.cell? ⟨gm, 0, none⟩ = some (.slice As s.length cs) ∧ w'.cell? ⟨gb5, 0, none⟩ = some (.bool o.1) ∧ w'.cell? ⟨gb5, 1, none⟩ = some (.slice Ao o.2.length co) ∧ w'.cell? ⟨gb5, 2, none⟩ = some (.bool a.1) ∧ w'.cell? ⟨gb5, 3, none⟩ = some (.slice Aa a.2.length ca) ∧ w'.cell? ⟨gb5, 4, none⟩ = some (.bool b.1) ∧ w'.cell? ⟨gb5, 5, none⟩ = some (.slice Ab b.2.length cb)) (ds := [23]) #[false, false, false, false, false, false, false, false, false, false, false, false, false, false, false, false, false, false, false, false, false, false, false, false] (by kernel_rfl) rfl rfl ⟨(blk_cell EIc.out.st.blk 0).trans rfl, (blk_cell EIc.out.b5 0).trans rfl, (blk_cell EIc.out.b5 1).trans rfl, (blk_cell EIc.out.b5 2).trans rfl, (blk_cell EIc.out.b5 3).trans rfl, (blk_cell EIc.out.b5 4).trans rfl, (blk_cell EIc.out.b5 5).trans rfl⟩ (fun hHeld => ?_); refine with_tabW me7_tab me7_bits (fun HT_ HW_ => ?_)
      generalize W6.drew = W1_ at EIc SZC hHeld ⊢
      refine pure_ (i := 0) (N := some 40) (v := ?_) (a' := ?_) #[true, false, false, false, false, false, false, false, false, false, false, false, false, false, false, false, false, false, false, false, false, false, false, false] rfl rfl (any_of HT_.out (by kernel_rfl)) (fun _ _ _ h => h) (Or.inl ⟨by rfl, ?_⟩) ?_ ?_
      rotate_left
      · intro w'
        go_simp
        with_reducible rfl
      rotate_left
      · simp only [Act.put, List.setIfInBounds_toArray, List.set_cons_zero, List.set_cons_succ, i64_w, i32_w]
        rfl
      refine pure_ (i := 1) (N := some 41) (v := ?_) (a' := ?_) #[true, true, false, false, false, false, false, false, false, false, false, false, false, false, false, false, false, false, false, false, false, false, false, false] rfl rfl (any_of HT_.out (by kernel_rfl)) (fun _ _ _ h => h) (Or.inl ⟨by rfl, ?_⟩) ?_ ?_
      rotate_left
      · intro w'
        go_simp
        with_reducible rfl
      rotate_left
      · simp only [Act.put, List.setIfInBounds_toArray, List.set_cons_zero, List.set_cons_succ, i64_w, i32_w]
        rfl
      refine pure_ (i := 2) (N := some 42) (v := ?_) (a' := ?_) #[true, true, true, false, false, false, false, false, false, false, false, false, false, false, false, false, false, false, false, false, false, false, false, false] rfl rfl (any_of HT_.out (by kernel_rfl)) (fun _ _ _ h => h) (Or.inl ⟨by rfl, ?_⟩) ?_ ?_
      rotate_left
      · intro w'
        go_simp
        with_reducible rfl
      rotate_left
      · simp only [Act.put, List.setIfInBounds_toArray, List.set_cons_zero, List.set_cons_succ, i64_w, i32_w]
        rfl
      refine pure_ (i := 3) (N := some 43) (v := ?_) (a' := ?_) #[true, true, true, true, false, false, false, false, false, false, false, false, false, false, false, false, false, false, false, false, false, false, false, false] rfl rfl (any_of HT_.out (by kernel_rfl)) (fun _ _ _ h => h) (Or.inl ⟨by rfl, ?_⟩) ?_ ?_
      rotate_left
      · intro w'
        go_simp
        with_reducible rfl
      rotate_left
      · simp only [Act.put, List.setIfInBounds_toArray, List.set_cons_zero, List.set_cons_succ, i64_w, i32_w]
        rfl
      refine take_ (i := 4) (N := some 44) (v := ?_) (a' := ?_) #[true, true, true, true, true, false, false, false, false, false, false, false, false, false, false, false, false, false, false, false, false, false, false, false] rfl rfl (take_ofW HT_.out HW_.out (by kernel_rfl)) (fun _ _ _ h => h) (Or.inl ⟨by rfl, ?_⟩) hHeld ?_ ?_
      rotate_left
      · rintro w' ⟨s0, s1, s2, s3, s4, s5, s6⟩
        go_simp
        with_reducible rfl
      rotate_left
      · simp only [Act.put, List.setIfInBounds_toArray, List.set_cons_zero, List.set_cons_succ, i64_w, i32_w]
        rfl
      refine pure_ (i := 5) (N := some 45) (v := ?_) (a' := ?_) #[true, true, true, true, true, true, false, false, false, false, false, false, false, false, false, false, false, false, false, false, false, false, false, false] rfl rfl (any_of HT_.out (by kernel_rfl)) (fun _ _ _ h => h) (Or.inl ⟨by rfl, ?_⟩) ?_ ?_
      rotate_left
      · intro w'
        go_simp
        with_reducible rfl
      rotate_left
      · simp only [Act.put, List.setIfInBounds_toArray, List.set_cons_zero, List.set_cons_succ, i64_w, i32_w]
        rfl
      refine pure_ (i := 6) (N := some 46) (v := ?_) (a' := ?_) #[true, true, true, true, true, true, true, false, false, false, false, false, false, false, false, false, false, false, false, false, false, false, false, false] rfl rfl (any_of HT_.out (by kernel_rfl)) (fun _ _ _ h => h) (Or.inl ⟨by rfl, ?_⟩) ?_ ?_
      rotate_left
      · intro w'
        go_simp
        with_reducible rfl
      rotate_left
      · simp only [Act.put, List.setIfInBounds_toArray, List.set_cons_zero, List.set_cons_succ, i64_w, i32_w]
        rfl
      refine pure_ (i := 8) (N := some 48) (v := ?_) (a' := ?_) #[true, true, true, true, true, true, true, false, true, false, false, false, false, false, false, false, false, false, false, false, false, false, false, false] rfl rfl (any_of HT_.out (by kernel_rfl)) (fun _ _ _ h => h) (Or.inl ⟨by rfl, ?_⟩) ?_ ?_
      rotate_left
      · intro w'
        go_simp
        with_reducible rfl
      rotate_left
      · simp only [Act.put, List.setIfInBounds_toArray, List.set_cons_zero, List.set_cons_succ, i64_w, i32_w]
        rfl
      refine take_ (i := 9) (N := some 49) (v := ?_) (a' := ?_) #[true, true, true, true, true, true, true, false, true, true, false, false, false, false, false, false, false, false, false, false, false, false, false, false] rfl rfl (take_ofW HT_.out HW_.out (by kernel_rfl)) (fun _ _ _ h => h) (Or.inl ⟨by rfl, ?_⟩) hHeld ?_ ?_
      rotate_left
      · rintro w' ⟨s0, s1, s2, s3, s4, s5, s6⟩
        go_simp
        with_reducible rfl
      rotate_left
      · simp only [Act.put, List.setIfInBounds_toArray, List.set_cons_zero, List.set_cons_succ, i64_w, i32_w]
        rfl
      refine pure_ (i := 10) (N := some 50) (v := ?_) (a' := ?_) #[true, true, true, true, true, true, true, false, true, true, true, false, false, false, false, false, false, false, false, false, false, false, false, false] rfl rfl (any_of HT_.out (by kernel_rfl)) (fun _ _ _ h => h) (Or.inl ⟨by rfl, ?_⟩) ?_ ?_
      rotate_left
      · intro w'
        go_simp
        with_reducible rfl
      rotate_left
      · simp only [Act.put, List.setIfInBounds_toArray, List.set_cons_zero, List.set_cons_succ, i64_w, i32_w]
        rfl
      refine pure_ (i := 12) (N := some 52) (v := ?_) (a' := ?_) #[true, true, true, true, true, true, true, false, true, true, true, false, true, false, false, false, false, false, false, false, false, false, false, false] rfl rfl (any_of HT_.out (by kernel_rfl)) (fun _ _ _ h => h) (Or.inl ⟨by rfl, ?_⟩) ?_ ?_
      rotate_left
      · intro w'
        go_simp
        with_reducible rfl
      rotate_left
      · simp only [Act.put, List.setIfInBounds_toArray, List.set_cons_zero, List.set_cons_succ, i64_w, i32_w]
        rfl
      refine take_ (i := 13) (N := some 53) (v := ?_) (a' := ?_) #[true, true, true, true, true, true, true, false, true, true, true, false, true, true, false, false, false, false, false, false, false, false, false, false] rfl rfl (take_ofW HT_.out HW_.out (by kernel_rfl)) (fun _ _ _ h => h) (Or.inl ⟨by rfl, ?_⟩) hHeld ?_ ?_
      rotate_left
      · rintro w' ⟨s0, s1, s2, s3, s4, s5, s6⟩
        go_simp
        with_reducible rfl
      rotate_left
      · simp only [Act.put, List.setIfInBounds_toArray, List.set_cons_zero, List.set_cons_succ, i64_w, i32_w]
        rfl
      refine pure_ (i := 14) (N := some 54) (v := ?_) (a' := ?_) #[true, true, true, true, true, true, true, false, true, true, true, false, true, true, true, false, false, false, false, false, false, false, false, false] rfl rfl (any_of HT_.out (by kernel_rfl)) (fun _ _ _ h => h) (Or.inl ⟨by rfl, ?_⟩) ?_ ?_
      rotate_left
      · intro w'
        go_simp
        with_reducible rfl
      rotate_left
      · simp only [Act.put, List.setIfInBounds_toArray, List.set_cons_zero, List.set_cons_succ, i64_w, i32_w]
        rfl
      refine pure_ (i := 16) (N := some 56) (v := ?_) (a' := ?_) #[true, true, true, true, true, true, true, false, true, true, true, false, true, true, true, false, true, false, false, false, false, false, false, false] rfl rfl (any_of HT_.out (by kernel_rfl)) (fun _ _ _ h => h) (Or.inl ⟨by rfl, ?_⟩) ?_ ?_
      rotate_left
      · intro w'
        go_simp
        with_reducible rfl
      rotate_left
      · simp only [Act.put, List.setIfInBounds_toArray, List.set_cons_zero, List.set_cons_succ, i64_w, i32_w]
        rfl
      refine take_ (i := 17) (N := some 57) (v := ?_) (a' := ?_) #[true, true, true, true, true, true, true, false, true, true, true, false, true, true, true, false, true, true, false, false, false, false, false, false] rfl rfl (take_ofW HT_.out HW_.out (by kernel_rfl)) (fun _ _ _ h => h) (Or.inl ⟨by rfl, ?_⟩) hHeld ?_ ?_
      rotate_left
      · rintro w' ⟨s0, s1, s2, s3, s4, s5, s6⟩
        go_simp
        with_reducible rfl
      rotate_left
      · simp only [Act.put, List.setIfInBounds_toArray, List.set_cons_zero, List.set_cons_succ, i64_w, i32_w]
        rfl
      refine pure_ (i := 18) (N := some 58) (v := ?_) (a' := ?_) #[true, true, true, true, true, true, true, false, true, true, true, false, true, true, true, false, true, true, true, false, false, false, false, false] rfl rfl (any_of HT_.out (by kernel_rfl)) (fun _ _ _ h => h) (Or.inl ⟨by rfl, ?_⟩) ?_ ?_
      rotate_left
      · intro w'
        go_simp
        with_reducible rfl
      rotate_left
      · simp only [Act.put, List.setIfInBounds_toArray, List.set_cons_zero, List.set_cons_succ, i64_w, i32_w]
        rfl
      refine join_ (σ := Value × Value × Value × Value × Value × Value × Nat) 1 #[true, true, true, true, true, true, true, true, true, true, true, true, true, true, true, true, true, true, true, true, true, true, true, false] (fun s_ => [(47, .int .i64 (toM s d n)), (51, .agg #[.bool (kidO o n).1, s_.1]), (55, .agg #[.bool (kidO a n).1, s_.2.1]), (59, .agg #[.bool (kidO b n).1, s_.2.2.1]), (60, .agg #[.bool (kidO o n).1, s_.1, .bool (kidO a n).1, s_.2.1, .bool (kidO b n).1, s_.2.2.1]), (61, .agg #[.bool rr.1.1.1, s_.2.2.2.1, .bool rr.1.2.1.1, s_.2.2.2.2.1, .bool rr.1.2.2.1, s_.2.2.2.2.2.1]), (11, .pointer (some ⟨s_.2.2.2.2.2.2, 0, none⟩))]) (fun s_ w' => (w'.cell? ⟨gm, 0, none⟩ = some (.slice As s.length cs) ∧ w'.cell? ⟨gb5, 0, none⟩ = some (.bool o.1) ∧ w'.cell? ⟨gb5, 1, none⟩ = some (.slice Ao o.2.length co) ∧ w'.cell? ⟨gb5, 2, none⟩ = some (.bool a.1) ∧ w'.cell? ⟨gb5, 3, none⟩ = some (.slice Aa a.2.length ca) ∧ w'.cell? ⟨gb5, 4, none⟩ = some (.bool b.1) ∧ w'.cell? ⟨gb5, 5, none⟩ = some (.slice Ab b.2.length cb)) ∧ ∃ (vl2 vp2 : Value), EInv w w' gm base As cs s vl vp l (p ++ [n]) Q gb5 gb6 gb7 (fun k => (k = gb6 ∨ k = gb7) ∨ W6.heap.size ≤ k) #[.bool o.1, .slice Ao o.2.length co, .bool a.1, .slice Aa a.2.length ca, .bool b.1, .slice Ab b.2.length cb] #[uO, uA, uB] (.slice (some ad24) ns.length c24) ns (acc.1, acc.2 ++ rr.2) vl2 vp2 uO uA uB ∧ w'.heap[s_.2.2.2.2.2.2]? = some (.cells #[.bool false, .slice none 0 0, .bool false, .slice none 0 0, .bool false, .slice none 0 0] 65 (0, 0)) ∧ W6.heap.size ≤ s_.2.2.2.2.2.2 ∧ Kd.V k51 51 w' 0 (fun k => ((Q k ∨ W6.heap.size ≤ k) ∧ ¬ MS gm vl2 vp2 k) ∧ k ≠ s_.2.2.2.2.2.2) s_.2.2.2.1 rr.1.1.2 ∧ Kd.V k51 51 w' 0 (fun k => ((Q k ∨ W6.heap.size ≤ k) ∧ ¬ MS gm vl2 vp2 k) ∧ k ≠ s_.2.2.2.2.2.2) s_.2.2.2.2.1 rr.1.2.1.2 ∧ Kd.V k51 51 w' 0 (fun k => ((Q k ∨ W6.heap.size ≤ k) ∧ ¬ MS gm vl2 vp2 k) ∧ k ≠ s_.2.2.2.2.2.2) s_.2.2.2.2.2.1 rr.1.2.2.2) ?_ ?_
      rotate_left
      · intro hCont
        refine two_ (i := 7) (j := 22) (Ni := some 47) (Nj := some 11) #[true, true, true, true, true, true, true, true, true, true, true, false, true, true, true, false, true, true, true, false, false, false, false, false] #[true, true, true, true, true, true, true, false, true, true, true, false, true, true, true, false, true, true, true, false, false, false, true, false] rfl rfl rfl rfl (two_of HT_.out (by kernel_rfl)) (by decide) (by decide) (fun K hK => ?_) (fun K hK => ?_)
        · skip
          refine goes_ Try.func37 (by kernel_rfl) rfl #[.slice As s.length cs, .int .i64 d, .string n] (by rfl) rfl rfl (by (try simp only [List.map_toArray, List.map_cons, List.map_nil]); first | done | rfl) ?_
          refine (schema_To.calls As cs s d n (toM s d n) _ (Kd.F_now (Kd.F_kept SF.out EIc.out.kp (fun k hk => (HQ.out k hk).2))) hsc (by unfold schema_To.f; rw [if_pos HOK.out])).mono ?_
          rintro e w7 ⟨rfl, hb⟩
          refine ⟨_, rfl, ?_⟩
          have NE := Aside0.mk (EIc.out.below (Nat.le_trans HBS6.out SZC.out) hb)
          have NS := Aside0.mk (Nat.le_trans SZC.out hb.size)
          clear EIc SZC hb
          have EIc := NE
          have SZC := NS
          clear NE NS
          refine hK.out _ _ ⟨(blk_cell EIc.out.st.blk 0).trans rfl, (blk_cell EIc.out.b5 0).trans rfl, (blk_cell EIc.out.b5 1).trans rfl, (blk_cell EIc.out.b5 2).trans rfl, (blk_cell EIc.out.b5 3).trans rfl, (blk_cell EIc.out.b5 4).trans rfl, (blk_cell EIc.out.b5 5).trans rfl⟩ (fun hHeld => ?_)
          clear hK K
          refine norm_ (a' := ?_) ?_ ?_
          rotate_left
          · show Act.put _ (some 47) _ = _
            simp only [Act.put, List.setIfInBounds_toArray, List.set_cons_zero, List.set_cons_succ, i64_w, i32_w]
            rfl
          refine two_ (i := 11) (j := 22) (Ni := some 51) (Nj := some 11) #[true, true, true, true, true, true, true, true, true, true, true, true, true, true, true, false, true, true, true, false, false, false, false, false] #[true, true, true, true, true, true, true, true, true, true, true, false, true, true, true, false, true, true, true, false, false, false, true, false] rfl rfl rfl rfl (two_of HT_.out (by kernel_rfl)) (by decide) (by decide) (fun K hK => ?_) (fun K hK => ?_)
          · skip
            refine goes_ Try.func38 (by kernel_rfl) rfl #[.agg #[.bool o.1, .slice Ao o.2.length co], .string n] (by rfl) rfl rfl (by (try simp only [List.map_toArray, List.map_cons, List.map_nil]); first | done | rfl) ?_
            refine (merge_below.calls KT o.1 Q Ao co o.2 n (kidO o n).1 (kidO o n).2 _ (V_base (Kd.V_kept VO.out EIc.out.kp (fun k hk => (HQ.out k hk).2))) HKO.out).mono ?_
            rintro e w11 ⟨v11, rfl, hN, hb⟩
            refine ⟨_, rfl, ?_⟩
            obtain ⟨Ak11, ck11, rfl⟩ := Kd.N_slice hN
            have R11 := Aside0.mk (Kd.V_mono (ok' := fun k => Q k ∨ W6.heap.size ≤ k) (Kd.N_V (base' := 0) hN) (fun k hk => hk.imp_right (fun h => Nat.le_trans SZC.out h)))
            clear hN
            have NE := Aside0.mk (EIc.out.below (Nat.le_trans HBS6.out SZC.out) hb)
            have NS := Aside0.mk (Nat.le_trans SZC.out hb.size)
            clear EIc SZC hb
            have EIc := NE
            have SZC := NS
            clear NE NS
            refine hK.out _ _ ⟨(blk_cell EIc.out.st.blk 0).trans rfl, (blk_cell EIc.out.b5 0).trans rfl, (blk_cell EIc.out.b5 1).trans rfl, (blk_cell EIc.out.b5 2).trans rfl, (blk_cell EIc.out.b5 3).trans rfl, (blk_cell EIc.out.b5 4).trans rfl, (blk_cell EIc.out.b5 5).trans rfl⟩ (fun hHeld => ?_)
            clear hK K
            refine norm_ (a' := ?_) ?_ ?_
            rotate_left
            · show Act.put _ (some 51) _ = _
              simp only [Act.put, List.setIfInBounds_toArray, List.set_cons_zero, List.set_cons_succ, i64_w, i32_w]
              rfl
            refine two_ (i := 15) (j := 22) (Ni := some 55) (Nj := some 11) #[true, true, true, true, true, true, true, true, true, true, true, true, true, true, true, true, true, true, true, false, false, false, false, false] #[true, true, true, true, true, true, true, true, true, true, true, true, true, true, true, false, true, true, true, false, false, false, true, false] rfl rfl rfl rfl (two_of HT_.out (by kernel_rfl)) (by decide) (by decide) (fun K hK => ?_) (fun K hK => ?_)
            · skip
              refine goes_ Try.func38 (by kernel_rfl) rfl #[.agg #[.bool a.1, .slice Aa a.2.length ca], .string n] (by rfl) rfl rfl (by (try simp only [List.map_toArray, List.map_cons, List.map_nil]); first | done | rfl) ?_
              refine (merge_below.calls KA a.1 Q Aa ca a.2 n (kidO a n).1 (kidO a n).2 _ (V_base (Kd.V_kept VA.out EIc.out.kp (fun k hk => (HQ.out k hk).2))) HKA.out).mono ?_
              rintro e w15 ⟨v15, rfl, hN, hb⟩
              refine ⟨_, rfl, ?_⟩
              obtain ⟨Ak15, ck15, rfl⟩ := Kd.N_slice hN
              have R15 := Aside0.mk (Kd.V_mono (ok' := fun k => Q k ∨ W6.heap.size ≤ k) (Kd.N_V (base' := 0) hN) (fun k hk => hk.imp_right (fun h => Nat.le_trans SZC.out h)))
              clear hN
              have NE := Aside0.mk (EIc.out.below (Nat.le_trans HBS6.out SZC.out) hb)
              have NS := Aside0.mk (Nat.le_trans SZC.out hb.size)
              have MR11 := Aside0.mk (Kd.V_below R11.out hb)
              clear R11
              have R11 := MR11
              clear MR11
              clear EIc SZC hb
              have EIc := NE
              have SZC := NS
              clear NE NS
              refine hK.out _ _ ⟨(blk_cell EIc.out.st.blk 0).trans rfl, (blk_cell EIc.out.b5 0).trans rfl, (blk_cell EIc.out.b5 1).trans rfl, (blk_cell EIc.out.b5 2).trans rfl, (blk_cell EIc.out.b5 3).trans rfl, (blk_cell EIc.out.b5 4).trans rfl, (blk_cell EIc.out.b5 5).trans rfl⟩ (fun hHeld => ?_)
              clear hK K
              refine norm_ (a' := ?_) ?_ ?_
              rotate_left
              · show Act.put _ (some 55) _ = _
                simp only [Act.put, List.setIfInBounds_toArray, List.set_cons_zero, List.set_cons_succ, i64_w, i32_w]
                rfl
              refine two_ (i := 19) (j := 22) (Ni := some 59) (Nj := some 11) #[true, true, true, true, true, true, true, true, true, true, true, true, true, true, true, true, true, true, true, true, false, false, false, false] #[true, true, true, true, true, true, true, true, true, true, true, true, true, true, true, true, true, true, true, false, false, false, true, false] rfl rfl rfl rfl (two_of HT_.out (by kernel_rfl)) (by decide) (by decide) (fun K hK => ?_) (fun K hK => ?_)
              · skip
                refine goes_ Try.func38 (by kernel_rfl) rfl #[.agg #[.bool b.1, .slice Ab b.2.length cb], .string n] (by rfl) rfl rfl (by (try simp only [List.map_toArray, List.map_cons, List.map_nil]); first | done | rfl) ?_
                refine (merge_below.calls KB b.1 Q Ab cb b.2 n (kidO b n).1 (kidO b n).2 _ (V_base (Kd.V_kept VB.out EIc.out.kp (fun k hk => (HQ.out k hk).2))) HKB.out).mono ?_
                rintro e w19 ⟨v19, rfl, hN, hb⟩
                refine ⟨_, rfl, ?_⟩
                obtain ⟨Ak19, ck19, rfl⟩ := Kd.N_slice hN
                have R19 := Aside0.mk (Kd.V_mono (ok' := fun k => Q k ∨ W6.heap.size ≤ k) (Kd.N_V (base' := 0) hN) (fun k hk => hk.imp_right (fun h => Nat.le_trans SZC.out h)))
                clear hN
                have NE := Aside0.mk (EIc.out.below (Nat.le_trans HBS6.out SZC.out) hb)
                have NS := Aside0.mk (Nat.le_trans SZC.out hb.size)
                have MR11 := Aside0.mk (Kd.V_below R11.out hb)
                clear R11
                have R11 := MR11
                clear MR11
                have MR15 := Aside0.mk (Kd.V_below R15.out hb)
                clear R15
                have R15 := MR15
                clear MR15
                clear EIc SZC hb
                have EIc := NE
                have SZC := NS
                clear NE NS
                refine hK.out _ _ ⟨(blk_cell EIc.out.st.blk 0).trans rfl, (blk_cell EIc.out.b5 0).trans rfl, (blk_cell EIc.out.b5 1).trans rfl, (blk_cell EIc.out.b5 2).trans rfl, (blk_cell EIc.out.b5 3).trans rfl, (blk_cell EIc.out.b5 4).trans rfl, (blk_cell EIc.out.b5 5).trans rfl⟩ (fun hHeld => ?_)
                clear hK K
                refine norm_ (a' := ?_) ?_ ?_
                rotate_left
                · show Act.put _ (some 59) _ = _
                  simp only [Act.put, List.setIfInBounds_toArray, List.set_cons_zero, List.set_cons_succ, i64_w, i32_w]
                  rfl
                refine pure_ (i := 20) (N := some 60) (v := ?_) (a' := ?_) #[true, true, true, true, true, true, true, true, true, true, true, true, true, true, true, true, true, true, true, true, true, false, false, false] rfl rfl (any_of HT_.out (by kernel_rfl)) (fun _ _ _ h => h) (Or.inl ⟨by rfl, ?_⟩) ?_ ?_
                rotate_left
                · intro w'
                  go_simp
                  with_reducible rfl
                rotate_left
                · simp only [Act.put, List.setIfInBounds_toArray, List.set_cons_zero, List.set_cons_succ, i64_w, i32_w]
                  rfl
                refine two_ (i := 21) (j := 22) (Ni := some 61) (Nj := some 11) #[true, true, true, true, true, true, true, true, true, true, true, true, true, true, true, true, true, true, true, true, true, true, false, false] #[true, true, true, true, true, true, true, true, true, true, true, true, true, true, true, true, true, true, true, true, true, false, true, false] rfl rfl rfl rfl (two_of HT_.out (by kernel_rfl)) (by decide) (by decide) (fun K hK => ?_) (fun K hK => ?_)
                · skip
                  refine goesV_ (x := .tmp 40) (bnd := #[.pointer (some ⟨gm, 0, none⟩)]) Try.func21 (by kernel_rfl) rfl #[.pointer (some ⟨gm, 0, none⟩), .int .i64 (toM s d n), .agg #[.bool (kidO o n).1, .slice Ak11 (kidO o n).2.length ck11, .bool (kidO a n).1, .slice Ak15 (kidO a n).2.length ck15, .bool (kidO b n).1, .slice Ak19 (kidO b n).2.length ck19]] (by rfl) rfl rfl rfl (by simp only [List.map_toArray, List.map_cons, List.map_nil, List.append_toArray, List.cons_append, List.nil_append]; rfl) ?_
                  refine (IH (toM s d n) (Q := fun k => (Q k ∨ W6.heap.size ≤ k) ∧ k < _) ⟨EIc.out.st, Nat.le_trans HBS6.out SZC.out, HOK.out, hsc, Kd.F_mono (Kd.F_bound (Kd.F_kept SF.out EIc.out.kp (fun k hk => (HQ.out k hk).2))) (fun k hk => ⟨.inl hk.1, hk.2⟩), V_base (Kd.V_bound R11.out), V_base (Kd.V_bound R15.out), V_base (Kd.V_bound R19.out), fun k hk => ⟨hk.2, HQ6.out k hk.1⟩, hoo.kid n, hoa.kid n, hob.kid n, hwd, by rw [List.length_append]; exact HLEN.out, by rw [hlen]; have := HNP.out; omega⟩).mono ?_
                  rintro e w21 ⟨vl2, vp2, uo, ua, ub, rfl, hst2, hbb, hkk, hg1, hg2, hv1, hv3, hv5⟩
                  refine ⟨_, rfl, ?_⟩
                  rw [← HRR.out] at hst2 hv1 hv3 hv5 ⊢
                  obtain ⟨Br1, cr1, rfl⟩ := Kd.V_slice hv1
                  obtain ⟨Br3, cr3, rfl⟩ := Kd.V_slice hv3
                  obtain ⟨Br5, cr5, rfl⟩ := Kd.V_slice hv5
                  rw [List.append_assoc] at hst2
                  have NE := Aside0.mk (EInv.move EIc.out hkk hbb (cf := acc.2 ++ rr.2) hst2 hg1 hg2)
                  have NS := Aside0.mk (Nat.le_trans SZC.out hkk.1)
                  have RV1 := Aside0.mk (V_base (b' := 0) (Kd.V_mono hv1 (ok' := fun k => (Q k ∨ W6.heap.size ≤ k) ∧ ¬ MS gm vl2 vp2 k) (fun k hk => ⟨hk.1.elim (fun h => h.1) (fun h => .inr (Nat.le_trans SZC.out h)), hk.2.2⟩)))
                  have RV3 := Aside0.mk (V_base (b' := 0) (Kd.V_mono hv3 (ok' := fun k => (Q k ∨ W6.heap.size ≤ k) ∧ ¬ MS gm vl2 vp2 k) (fun k hk => ⟨hk.1.elim (fun h => h.1) (fun h => .inr (Nat.le_trans SZC.out h)), hk.2.2⟩)))
                  have RV5 := Aside0.mk (V_base (b' := 0) (Kd.V_mono hv5 (ok' := fun k => (Q k ∨ W6.heap.size ≤ k) ∧ ¬ MS gm vl2 vp2 k) (fun k hk => ⟨hk.1.elim (fun h => h.1) (fun h => .inr (Nat.le_trans SZC.out h)), hk.2.2⟩)))
                  clear EIc SZC hbb hkk hg1 hg2 hst2 hv1 hv3 hv5 R11 R15 R19
                  have EIc := NE
                  have SZC := NS
                  clear NE NS
                  refine hK.out _ _ ⟨(blk_cell EIc.out.st.blk 0).trans rfl, (blk_cell EIc.out.b5 0).trans rfl, (blk_cell EIc.out.b5 1).trans rfl, (blk_cell EIc.out.b5 2).trans rfl, (blk_cell EIc.out.b5 3).trans rfl, (blk_cell EIc.out.b5 4).trans rfl, (blk_cell EIc.out.b5 5).trans rfl⟩ (fun hHeld => ?_)
                  clear hK K
                  refine norm_ (a' := ?_) ?_ ?_
                  rotate_left
                  · show Act.put _ (some 61) _ = _
                    simp only [Act.put, List.setIfInBounds_toArray, List.set_cons_zero, List.set_cons_succ, i64_w, i32_w]
                    rfl
                  refine one_ (i := 22) (N := some 11) #[true, true, true, true, true, true, true, true, true, true, true, true, true, true, true, true, true, true, true, true, true, true, true, false] rfl rfl (one_of HT_.out (by kernel_rfl)) (by decide) (fun K hK => ?_)
                  refine value_ (w1 := ?_) (v := ?_) (by rfl) rfl ?_ ?_
                  rotate_left 2
                  · go_simp
                    constructor
                    · rfl
                    · rfl
                  have NE := Aside0.mk (EIc.out.below (Nat.le_trans HBS6.out SZC.out) (below_alloc (Below.refl _ _) (.cells #[.bool false, .slice none 0 0, .bool false, .slice none 0 0, .bool false, .slice none 0 0] 65)))
                  have NS := Aside0.mk (Nat.le_trans SZC.out (below_alloc (Below.refl w21.heap.size w21) (.cells #[.bool false, .slice none 0 0, .bool false, .slice none 0 0, .bool false, .slice none 0 0] 65)).size)
                  have BK11 := Aside0.mk (blk_new w21 (.cells #[.bool false, .slice none 0 0, .bool false, .slice none 0 0, .bool false, .slice none 0 0] 65))
                  have G11 := SZC
                  have MRV1 := Aside0.mk (Kd.V_alloc (Kd.V_elderB RV1.out w21.heap.size (Nat.le_refl _)) (.cells #[.bool false, .slice none 0 0, .bool false, .slice none 0 0, .bool false, .slice none 0 0] 65))
                  clear RV1
                  have RV1 := MRV1
                  clear MRV1
                  have MRV3 := Aside0.mk (Kd.V_alloc (Kd.V_elderB RV3.out w21.heap.size (Nat.le_refl _)) (.cells #[.bool false, .slice none 0 0, .bool false, .slice none 0 0, .bool false, .slice none 0 0] 65))
                  clear RV3
                  have RV3 := MRV3
                  clear MRV3
                  have MRV5 := Aside0.mk (Kd.V_alloc (Kd.V_elderB RV5.out w21.heap.size (Nat.le_refl _)) (.cells #[.bool false, .slice none 0 0, .bool false, .slice none 0 0, .bool false, .slice none 0 0] 65))
                  clear RV5
                  have RV5 := MRV5
                  clear MRV5
                  clear EIc SZC
                  have EIc := NE
                  have SZC := NS
                  clear NE NS
                  refine hK.out _ _ ⟨(blk_cell EIc.out.st.blk 0).trans rfl, (blk_cell EIc.out.b5 0).trans rfl, (blk_cell EIc.out.b5 1).trans rfl, (blk_cell EIc.out.b5 2).trans rfl, (blk_cell EIc.out.b5 3).trans rfl, (blk_cell EIc.out.b5 4).trans rfl, (blk_cell EIc.out.b5 5).trans rfl⟩ (fun hHeld => ?_)
                  clear hK K
                  refine norm_ (a' := ?_) ?_ ?_
                  rotate_left
                  · show Act.put _ (some 11) _ = _
                    simp only [Act.put, List.setIfInBounds_toArray, List.set_cons_zero, List.set_cons_succ, i64_w, i32_w]
                    rfl
                  generalize w21.heap.size = gb11 at BK11 G11 RV1 RV3 RV5 ⊢
                  generalize w21.alloc (.cells #[.bool false, .slice none 0 0, .bool false, .slice none 0 0, .bool false, .slice none 0 0] 65) = wA at EIc SZC BK11 RV1 RV3 RV5 hHeld ⊢
                  exact norm_ (by simp only [putAll, Act.put, List.setIfInBounds_toArray, List.set_cons_zero, List.set_cons_succ]) (hCont (.slice Ak11 (kidO o n).2.length ck11, .slice Ak15 (kidO a n).2.length ck15, .slice Ak19 (kidO b n).2.length ck19, .slice Br1 rr.1.1.2.length cr1, .slice Br3 rr.1.2.1.2.length cr3, .slice Br5 rr.1.2.2.2.length cr5, gb11) _ ⟨hHeld, vl2, vp2, EIc.out, BK11.out, G11.out, RV1.out, RV3.out, RV5.out⟩)
                · skip
                  refine value_ (w1 := ?_) (v := ?_) (by rfl) rfl ?_ ?_
                  rotate_left 2
                  · go_simp
                    constructor
                    · rfl
                    · rfl
                  have NE := Aside0.mk (EIc.out.below (Nat.le_trans HBS6.out SZC.out) (below_alloc (Below.refl _ _) (.cells #[.bool false, .slice none 0 0, .bool false, .slice none 0 0, .bool false, .slice none 0 0] 65)))
                  have NS := Aside0.mk (Nat.le_trans SZC.out (below_alloc (Below.refl w19.heap.size w19) (.cells #[.bool false, .slice none 0 0, .bool false, .slice none 0 0, .bool false, .slice none 0 0] 65)).size)
                  have BK11 := Aside0.mk (blk_new w19 (.cells #[.bool false, .slice none 0 0, .bool false, .slice none 0 0, .bool false, .slice none 0 0] 65))
                  have G11 := SZC
                  have MR11 := Aside0.mk (Kd.V_alloc (Kd.V_elderB R11.out w19.heap.size (Nat.le_refl _)) (.cells #[.bool false, .slice none 0 0, .bool false, .slice none 0 0, .bool false, .slice none 0 0] 65))
                  clear R11
                  have R11 := MR11
                  clear MR11
                  have MR15 := Aside0.mk (Kd.V_alloc (Kd.V_elderB R15.out w19.heap.size (Nat.le_refl _)) (.cells #[.bool false, .slice none 0 0, .bool false, .slice none 0 0, .bool false, .slice none 0 0] 65))
                  clear R15
                  have R15 := MR15
                  clear MR15
                  have MR19 := Aside0.mk (Kd.V_alloc (Kd.V_elderB R19.out w19.heap.size (Nat.le_refl _)) (.cells #[.bool false, .slice none 0 0, .bool false, .slice none 0 0, .bool false, .slice none 0 0] 65))
                  clear R19
                  have R19 := MR19
                  clear MR19
                  clear EIc SZC
                  have EIc := NE
                  have SZC := NS
                  clear NE NS
                  refine hK.out _ _ ⟨(blk_cell EIc.out.st.blk 0).trans rfl, (blk_cell EIc.out.b5 0).trans rfl, (blk_cell EIc.out.b5 1).trans rfl, (blk_cell EIc.out.b5 2).trans rfl, (blk_cell EIc.out.b5 3).trans rfl, (blk_cell EIc.out.b5 4).trans rfl, (blk_cell EIc.out.b5 5).trans rfl⟩ (fun hHeld => ?_)
                  clear hK K
                  refine norm_ (a' := ?_) ?_ ?_
                  rotate_left
                  · show Act.put _ (some 11) _ = _
                    simp only [Act.put, List.setIfInBounds_toArray, List.set_cons_zero, List.set_cons_succ, i64_w, i32_w]
                    rfl
                  generalize w19.heap.size = gb11 at BK11 G11 R11 R15 R19 ⊢
                  generalize w19.alloc (.cells #[.bool false, .slice none 0 0, .bool false, .slice none 0 0, .bool false, .slice none 0 0] 65) = wA at EIc SZC BK11 R11 R15 R19 hHeld ⊢
                  refine one_ (i := 21) (N := some 61) #[true, true, true, true, true, true, true, true, true, true, true, true, true, true, true, true, true, true, true, true, true, true, true, false] rfl rfl (one_of HT_.out (by kernel_rfl)) (by decide) (fun K hK => ?_)
                  refine goesV_ (x := .tmp 40) (bnd := #[.pointer (some ⟨gm, 0, none⟩)]) Try.func21 (by kernel_rfl) rfl #[.pointer (some ⟨gm, 0, none⟩), .int .i64 (toM s d n), .agg #[.bool (kidO o n).1, .slice Ak11 (kidO o n).2.length ck11, .bool (kidO a n).1, .slice Ak15 (kidO a n).2.length ck15, .bool (kidO b n).1, .slice Ak19 (kidO b n).2.length ck19]] (by rfl) rfl rfl rfl (by simp only [List.map_toArray, List.map_cons, List.map_nil, List.append_toArray, List.cons_append, List.nil_append]; rfl) ?_
                  refine (IH (toM s d n) (Q := fun k => ((Q k ∨ W6.heap.size ≤ k) ∧ k ≠ gb11) ∧ k < _) ⟨EIc.out.st, Nat.le_trans HBS6.out SZC.out, HOK.out, hsc, Kd.F_mono (Kd.F_bound (Kd.F_kept SF.out EIc.out.kp (fun k hk => (HQ.out k hk).2))) (fun k hk => ⟨⟨.inl hk.1, fun e => by have h1 := (HQ.out k hk.1).1; have h2 := G11.out; have h3 := SZ6.out; omega⟩, hk.2⟩), V_base (Kd.V_bound R11.out), V_base (Kd.V_bound R15.out), V_base (Kd.V_bound R19.out), fun k hk => ⟨hk.2, HQ6.out k hk.1.1⟩, hoo.kid n, hoa.kid n, hob.kid n, hwd, by rw [List.length_append]; exact HLEN.out, by rw [hlen]; have := HNP.out; omega⟩).mono ?_
                  rintro e w21 ⟨vl2, vp2, uo, ua, ub, rfl, hst2, hbb, hkk, hg1, hg2, hv1, hv3, hv5⟩
                  refine ⟨_, rfl, ?_⟩
                  rw [← HRR.out] at hst2 hv1 hv3 hv5 ⊢
                  obtain ⟨Br1, cr1, rfl⟩ := Kd.V_slice hv1
                  obtain ⟨Br3, cr3, rfl⟩ := Kd.V_slice hv3
                  obtain ⟨Br5, cr5, rfl⟩ := Kd.V_slice hv5
                  rw [List.append_assoc] at hst2
                  have NE := Aside0.mk (EInv.move EIc.out hkk hbb (cf := acc.2 ++ rr.2) hst2 hg1 hg2)
                  have NS := Aside0.mk (Nat.le_trans SZC.out hkk.1)
                  have RV1 := Aside0.mk (V_base (b' := 0) (Kd.V_mono hv1 (ok' := fun k => ((Q k ∨ W6.heap.size ≤ k) ∧ ¬ MS gm vl2 vp2 k) ∧ k ≠ gb11) (fun k hk => ⟨⟨hk.1.elim (fun h => h.1.1) (fun h => .inr (Nat.le_trans SZC.out h)), hk.2.2⟩, hk.1.elim (fun h => h.1.2) (fun h e => by have := blk_lt BK11.out; omega)⟩)))
                  have RV3 := Aside0.mk (V_base (b' := 0) (Kd.V_mono hv3 (ok' := fun k => ((Q k ∨ W6.heap.size ≤ k) ∧ ¬ MS gm vl2 vp2 k) ∧ k ≠ gb11) (fun k hk => ⟨⟨hk.1.elim (fun h => h.1.1) (fun h => .inr (Nat.le_trans SZC.out h)), hk.2.2⟩, hk.1.elim (fun h => h.1.2) (fun h e => by have := blk_lt BK11.out; omega)⟩)))
                  have RV5 := Aside0.mk (V_base (b' := 0) (Kd.V_mono hv5 (ok' := fun k => ((Q k ∨ W6.heap.size ≤ k) ∧ ¬ MS gm vl2 vp2 k) ∧ k ≠ gb11) (fun k hk => ⟨⟨hk.1.elim (fun h => h.1.1) (fun h => .inr (Nat.le_trans SZC.out h)), hk.2.2⟩, hk.1.elim (fun h => h.1.2) (fun h e => by have := blk_lt BK11.out; omega)⟩)))
                  have N11 := Aside0.mk (blk_kept BK11.out hkk (not_ms EIc.out.st BK11.out (by decide) (by decide) (by decide)))
                  clear BK11
                  have BK11 := N11
                  clear N11
                  clear EIc SZC hbb hkk hg1 hg2 hst2 hv1 hv3 hv5 R11 R15 R19
                  have EIc := NE
                  have SZC := NS
                  clear NE NS
                  refine hK.out _ _ ⟨(blk_cell EIc.out.st.blk 0).trans rfl, (blk_cell EIc.out.b5 0).trans rfl, (blk_cell EIc.out.b5 1).trans rfl, (blk_cell EIc.out.b5 2).trans rfl, (blk_cell EIc.out.b5 3).trans rfl, (blk_cell EIc.out.b5 4).trans rfl, (blk_cell EIc.out.b5 5).trans rfl⟩ (fun hHeld => ?_)
                  clear hK K
                  refine norm_ (a' := ?_) ?_ ?_
                  rotate_left
                  · show Act.put _ (some 61) _ = _
                    simp only [Act.put, List.setIfInBounds_toArray, List.set_cons_zero, List.set_cons_succ, i64_w, i32_w]
                    rfl
                  exact norm_ (by simp only [putAll, Act.put, List.setIfInBounds_toArray, List.set_cons_zero, List.set_cons_succ]) (hCont (.slice Ak11 (kidO o n).2.length ck11, .slice Ak15 (kidO a n).2.length ck15, .slice Ak19 (kidO b n).2.length ck19, .slice Br1 rr.1.1.2.length cr1, .slice Br3 rr.1.2.1.2.length cr3, .slice Br5 rr.1.2.2.2.length cr5, gb11) _ ⟨hHeld, vl2, vp2, EIc.out, BK11.out, G11.out, RV1.out, RV3.out, RV5.out⟩)
              · skip
                refine value_ (w1 := ?_) (v := ?_) (by rfl) rfl ?_ ?_
                rotate_left 2
                · go_simp
                  constructor
                  · rfl
                  · rfl
                have NE := Aside0.mk (EIc.out.below (Nat.le_trans HBS6.out SZC.out) (below_alloc (Below.refl _ _) (.cells #[.bool false, .slice none 0 0, .bool false, .slice none 0 0, .bool false, .slice none 0 0] 65)))
                have NS := Aside0.mk (Nat.le_trans SZC.out (below_alloc (Below.refl w15.heap.size w15) (.cells #[.bool false, .slice none 0 0, .bool false, .slice none 0 0, .bool false, .slice none 0 0] 65)).size)
                have BK11 := Aside0.mk (blk_new w15 (.cells #[.bool false, .slice none 0 0, .bool false, .slice none 0 0, .bool false, .slice none 0 0] 65))
                have G11 := SZC
                have MR11 := Aside0.mk (Kd.V_alloc (Kd.V_elderB R11.out w15.heap.size (Nat.le_refl _)) (.cells #[.bool false, .slice none 0 0, .bool false, .slice none 0 0, .bool false, .slice none 0 0] 65))
                clear R11
                have R11 := MR11
                clear MR11
                have MR15 := Aside0.mk (Kd.V_alloc (Kd.V_elderB R15.out w15.heap.size (Nat.le_refl _)) (.cells #[.bool false, .slice none 0 0, .bool false, .slice none 0 0, .bool false, .slice none 0 0] 65))
                clear R15
                have R15 := MR15
                clear MR15
                clear EIc SZC
                have EIc := NE
                have SZC := NS
                clear NE NS
                refine hK.out _ _ ⟨(blk_cell EIc.out.st.blk 0).trans rfl, (blk_cell EIc.out.b5 0).trans rfl, (blk_cell EIc.out.b5 1).trans rfl, (blk_cell EIc.out.b5 2).trans rfl, (blk_cell EIc.out.b5 3).trans rfl, (blk_cell EIc.out.b5 4).trans rfl, (blk_cell EIc.out.b5 5).trans rfl⟩ (fun hHeld => ?_)
                clear hK K
                refine norm_ (a' := ?_) ?_ ?_
                rotate_left
                · show Act.put _ (some 11) _ = _
                  simp only [Act.put, List.setIfInBounds_toArray, List.set_cons_zero, List.set_cons_succ, i64_w, i32_w]
                  rfl
                generalize w15.heap.size = gb11 at BK11 G11 R11 R15 ⊢
                generalize w15.alloc (.cells #[.bool false, .slice none 0 0, .bool false, .slice none 0 0, .bool false, .slice none 0 0] 65) = wA at EIc SZC BK11 R11 R15 hHeld ⊢
                refine one_ (i := 19) (N := some 59) #[true, true, true, true, true, true, true, true, true, true, true, true, true, true, true, true, true, true, true, true, false, false, true, false] rfl rfl (one_of HT_.out (by kernel_rfl)) (by decide) (fun K hK => ?_)
                refine goes_ Try.func38 (by kernel_rfl) rfl #[.agg #[.bool b.1, .slice Ab b.2.length cb], .string n] (by rfl) rfl rfl (by (try simp only [List.map_toArray, List.map_cons, List.map_nil]); first | done | rfl) ?_
                refine (merge_below.calls KB b.1 Q Ab cb b.2 n (kidO b n).1 (kidO b n).2 _ (V_base (Kd.V_kept VB.out EIc.out.kp (fun k hk => (HQ.out k hk).2))) HKB.out).mono ?_
                rintro e w19 ⟨v19, rfl, hN, hb⟩
                refine ⟨_, rfl, ?_⟩
                obtain ⟨Ak19, ck19, rfl⟩ := Kd.N_slice hN
                have R19 := Aside0.mk (Kd.V_mono (ok' := fun k => (Q k ∨ W6.heap.size ≤ k) ∧ k ≠ gb11) (Kd.N_V (base' := 0) hN) (fun k hk => ⟨hk.imp_right (fun h => Nat.le_trans SZC.out h), fun e => by subst e; rcases hk with hk | hk; (have := (HQ.out _ hk).1; have := G11.out; have := SZ6.out; omega); (have := blk_lt BK11.out; omega)⟩))
                clear hN
                have NE := Aside0.mk (EIc.out.below (Nat.le_trans HBS6.out SZC.out) hb)
                have NS := Aside0.mk (Nat.le_trans SZC.out hb.size)
                have MR11 := Aside0.mk (Kd.V_below R11.out hb)
                clear R11
                have R11 := MR11
                clear MR11
                have MR15 := Aside0.mk (Kd.V_below R15.out hb)
                clear R15
                have R15 := MR15
                clear MR15
                have N11 := Aside0.mk (blk_below BK11.out hb)
                clear BK11
                have BK11 := N11
                clear N11
                clear EIc SZC hb
                have EIc := NE
                have SZC := NS
                clear NE NS
                refine hK.out _ _ ⟨(blk_cell EIc.out.st.blk 0).trans rfl, (blk_cell EIc.out.b5 0).trans rfl, (blk_cell EIc.out.b5 1).trans rfl, (blk_cell EIc.out.b5 2).trans rfl, (blk_cell EIc.out.b5 3).trans rfl, (blk_cell EIc.out.b5 4).trans rfl, (blk_cell EIc.out.b5 5).trans rfl⟩ (fun hHeld => ?_)
                clear hK K
                refine norm_ (a' := ?_) ?_ ?_
                rotate_left
                · show Act.put _ (some 59) _ = _
                  simp only [Act.put, List.setIfInBounds_toArray, List.set_cons_zero, List.set_cons_succ, i64_w, i32_w]
                  rfl
                refine pure_ (i := 20) (N := some 60) (v := ?_) (a' := ?_) #[true, true, true, true, true, true, true, true, true, true, true, true, true, true, true, true, true, true, true, true, true, false, true, false] rfl rfl (any_of HT_.out (by kernel_rfl)) (fun _ _ _ h => h) (Or.inl ⟨by rfl, ?_⟩) ?_ ?_
                rotate_left
                · intro w'
                  go_simp
                  with_reducible rfl
                rotate_left
                · simp only [Act.put, List.setIfInBounds_toArray, List.set_cons_zero, List.set_cons_succ, i64_w, i32_w]
                  rfl
                refine one_ (i := 21) (N := some 61) #[true, true, true, true, true, true, true, true, true, true, true, true, true, true, true, true, true, true, true, true, true, true, true, false] rfl rfl (one_of HT_.out (by kernel_rfl)) (by decide) (fun K hK => ?_)
                refine goesV_ (x := .tmp 40) (bnd := #[.pointer (some ⟨gm, 0, none⟩)]) Try.func21 (by kernel_rfl) rfl #[.pointer (some ⟨gm, 0, none⟩), .int .i64 (toM s d n), .agg #[.bool (kidO o n).1, .slice Ak11 (kidO o n).2.length ck11, .bool (kidO a n).1, .slice Ak15 (kidO a n).2.length ck15, .bool (kidO b n).1, .slice Ak19 (kidO b n).2.length ck19]] (by rfl) rfl rfl rfl (by simp only [List.map_toArray, List.map_cons, List.map_nil, List.append_toArray, List.cons_append, List.nil_append]; rfl) ?_
                refine (IH (toM s d n) (Q := fun k => ((Q k ∨ W6.heap.size ≤ k) ∧ k ≠ gb11) ∧ k < _) ⟨EIc.out.st, Nat.le_trans HBS6.out SZC.out, HOK.out, hsc, Kd.F_mono (Kd.F_bound (Kd.F_kept SF.out EIc.out.kp (fun k hk => (HQ.out k hk).2))) (fun k hk => ⟨⟨.inl hk.1, fun e => by have h1 := (HQ.out k hk.1).1; have h2 := G11.out; have h3 := SZ6.out; omega⟩, hk.2⟩), V_base (Kd.V_bound R11.out), V_base (Kd.V_bound R15.out), V_base (Kd.V_bound R19.out), fun k hk => ⟨hk.2, HQ6.out k hk.1.1⟩, hoo.kid n, hoa.kid n, hob.kid n, hwd, by rw [List.length_append]; exact HLEN.out, by rw [hlen]; have := HNP.out; omega⟩).mono ?_
                rintro e w21 ⟨vl2, vp2, uo, ua, ub, rfl, hst2, hbb, hkk, hg1, hg2, hv1, hv3, hv5⟩
                refine ⟨_, rfl, ?_⟩
                rw [← HRR.out] at hst2 hv1 hv3 hv5 ⊢
                obtain ⟨Br1, cr1, rfl⟩ := Kd.V_slice hv1
                obtain ⟨Br3, cr3, rfl⟩ := Kd.V_slice hv3
                obtain ⟨Br5, cr5, rfl⟩ := Kd.V_slice hv5
                rw [List.append_assoc] at hst2
                have NE := Aside0.mk (EInv.move EIc.out hkk hbb (cf := acc.2 ++ rr.2) hst2 hg1 hg2)
                have NS := Aside0.mk (Nat.le_trans SZC.out hkk.1)
                have RV1 := Aside0.mk (V_base (b' := 0) (Kd.V_mono hv1 (ok' := fun k => ((Q k ∨ W6.heap.size ≤ k) ∧ ¬ MS gm vl2 vp2 k) ∧ k ≠ gb11) (fun k hk => ⟨⟨hk.1.elim (fun h => h.1.1) (fun h => .inr (Nat.le_trans SZC.out h)), hk.2.2⟩, hk.1.elim (fun h => h.1.2) (fun h e => by have := blk_lt BK11.out; omega)⟩)))
                have RV3 := Aside0.mk (V_base (b' := 0) (Kd.V_mono hv3 (ok' := fun k => ((Q k ∨ W6.heap.size ≤ k) ∧ ¬ MS gm vl2 vp2 k) ∧ k ≠ gb11) (fun k hk => ⟨⟨hk.1.elim (fun h => h.1.1) (fun h => .inr (Nat.le_trans SZC.out h)), hk.2.2⟩, hk.1.elim (fun h => h.1.2) (fun h e => by have := blk_lt BK11.out; omega)⟩)))
                have RV5 := Aside0.mk (V_base (b' := 0) (Kd.V_mono hv5 (ok' := fun k => ((Q k ∨ W6.heap.size ≤ k) ∧ ¬ MS gm vl2 vp2 k) ∧ k ≠ gb11) (fun k hk => ⟨⟨hk.1.elim (fun h => h.1.1) (fun h => .inr (Nat.le_trans SZC.out h)), hk.2.2⟩, hk.1.elim (fun h => h.1.2) (fun h e => by have := blk_lt BK11.out; omega)⟩)))
                have N11 := Aside0.mk (blk_kept BK11.out hkk (not_ms EIc.out.st BK11.out (by decide) (by decide) (by decide)))
                clear BK11
                have BK11 := N11
                clear N11
                clear EIc SZC hbb hkk hg1 hg2 hst2 hv1 hv3 hv5 R11 R15 R19
                have EIc := NE
                have SZC := NS
                clear NE NS
                refine hK.out _ _ ⟨(blk_cell EIc.out.st.blk 0).trans rfl, (blk_cell EIc.out.b5 0).trans rfl, (blk_cell EIc.out.b5 1).trans rfl, (blk_cell EIc.out.b5 2).trans rfl, (blk_cell EIc.out.b5 3).trans rfl, (blk_cell EIc.out.b5 4).trans rfl, (blk_cell EIc.out.b5 5).trans rfl⟩ (fun hHeld => ?_)
                clear hK K
                refine norm_ (a' := ?_) ?_ ?_
                rotate_left
                · show Act.put _ (some 61) _ = _
                  simp only [Act.put, List.setIfInBounds_toArray, List.set_cons_zero, List.set_cons_succ, i64_w, i32_w]
                  rfl
                exact norm_ (by simp only [putAll, Act.put, List.setIfInBounds_toArray, List.set_cons_zero, List.set_cons_succ]) (hCont (.slice Ak11 (kidO o n).2.length ck11, .slice Ak15 (kidO a n).2.length ck15, .slice Ak19 (kidO b n).2.length ck19, .slice Br1 rr.1.1.2.length cr1, .slice Br3 rr.1.2.1.2.length cr3, .slice Br5 rr.1.2.2.2.length cr5, gb11) _ ⟨hHeld, vl2, vp2, EIc.out, BK11.out, G11.out, RV1.out, RV3.out, RV5.out⟩)
            · skip
              refine value_ (w1 := ?_) (v := ?_) (by rfl) rfl ?_ ?_
              rotate_left 2
              · go_simp
                constructor
                · rfl
                · rfl
              have NE := Aside0.mk (EIc.out.below (Nat.le_trans HBS6.out SZC.out) (below_alloc (Below.refl _ _) (.cells #[.bool false, .slice none 0 0, .bool false, .slice none 0 0, .bool false, .slice none 0 0] 65)))
              have NS := Aside0.mk (Nat.le_trans SZC.out (below_alloc (Below.refl w11.heap.size w11) (.cells #[.bool false, .slice none 0 0, .bool false, .slice none 0 0, .bool false, .slice none 0 0] 65)).size)
              have BK11 := Aside0.mk (blk_new w11 (.cells #[.bool false, .slice none 0 0, .bool false, .slice none 0 0, .bool false, .slice none 0 0] 65))
              have G11 := SZC
              have MR11 := Aside0.mk (Kd.V_alloc (Kd.V_elderB R11.out w11.heap.size (Nat.le_refl _)) (.cells #[.bool false, .slice none 0 0, .bool false, .slice none 0 0, .bool false, .slice none 0 0] 65))
              clear R11
              have R11 := MR11
              clear MR11
              clear EIc SZC
              have EIc := NE
              have SZC := NS
              clear NE NS
              refine hK.out _ _ ⟨(blk_cell EIc.out.st.blk 0).trans rfl, (blk_cell EIc.out.b5 0).trans rfl, (blk_cell EIc.out.b5 1).trans rfl, (blk_cell EIc.out.b5 2).trans rfl, (blk_cell EIc.out.b5 3).trans rfl, (blk_cell EIc.out.b5 4).trans rfl, (blk_cell EIc.out.b5 5).trans rfl⟩ (fun hHeld => ?_)
              clear hK K
              refine norm_ (a' := ?_) ?_ ?_
              rotate_left
              · show Act.put _ (some 11) _ = _
                simp only [Act.put, List.setIfInBounds_toArray, List.set_cons_zero, List.set_cons_succ, i64_w, i32_w]
                rfl
              generalize w11.heap.size = gb11 at BK11 G11 R11 ⊢
              generalize w11.alloc (.cells #[.bool false, .slice none 0 0, .bool false, .slice none 0 0, .bool false, .slice none 0 0] 65) = wA at EIc SZC BK11 R11 hHeld ⊢
              refine one_ (i := 15) (N := some 55) #[true, true, true, true, true, true, true, true, true, true, true, true, true, true, true, true, true, true, true, false, false, false, true, false] rfl rfl (one_of HT_.out (by kernel_rfl)) (by decide) (fun K hK => ?_)
              refine goes_ Try.func38 (by kernel_rfl) rfl #[.agg #[.bool a.1, .slice Aa a.2.length ca], .string n] (by rfl) rfl rfl (by (try simp only [List.map_toArray, List.map_cons, List.map_nil]); first | done | rfl) ?_
              refine (merge_below.calls KA a.1 Q Aa ca a.2 n (kidO a n).1 (kidO a n).2 _ (V_base (Kd.V_kept VA.out EIc.out.kp (fun k hk => (HQ.out k hk).2))) HKA.out).mono ?_
              rintro e w15 ⟨v15, rfl, hN, hb⟩
              refine ⟨_, rfl, ?_⟩
              obtain ⟨Ak15, ck15, rfl⟩ := Kd.N_slice hN
              have R15 := Aside0.mk (Kd.V_mono (ok' := fun k => (Q k ∨ W6.heap.size ≤ k) ∧ k ≠ gb11) (Kd.N_V (base' := 0) hN) (fun k hk => ⟨hk.imp_right (fun h => Nat.le_trans SZC.out h), fun e => by subst e; rcases hk with hk | hk; (have := (HQ.out _ hk).1; have := G11.out; have := SZ6.out; omega); (have := blk_lt BK11.out; omega)⟩))
              clear hN
              have NE := Aside0.mk (EIc.out.below (Nat.le_trans HBS6.out SZC.out) hb)
              have NS := Aside0.mk (Nat.le_trans SZC.out hb.size)
              have MR11 := Aside0.mk (Kd.V_below R11.out hb)
              clear R11
              have R11 := MR11
              clear MR11
              have N11 := Aside0.mk (blk_below BK11.out hb)
              clear BK11
              have BK11 := N11
              clear N11
              clear EIc SZC hb
              have EIc := NE
              have SZC := NS
              clear NE NS
              refine hK.out _ _ ⟨(blk_cell EIc.out.st.blk 0).trans rfl, (blk_cell EIc.out.b5 0).trans rfl, (blk_cell EIc.out.b5 1).trans rfl, (blk_cell EIc.out.b5 2).trans rfl, (blk_cell EIc.out.b5 3).trans rfl, (blk_cell EIc.out.b5 4).trans rfl, (blk_cell EIc.out.b5 5).trans rfl⟩ (fun hHeld => ?_)
              clear hK K
              refine norm_ (a' := ?_) ?_ ?_
              rotate_left
              · show Act.put _ (some 55) _ = _
                simp only [Act.put, List.setIfInBounds_toArray, List.set_cons_zero, List.set_cons_succ, i64_w, i32_w]
                rfl
              refine one_ (i := 19) (N := some 59) #[true, true, true, true, true, true, true, true, true, true, true, true, true, true, true, true, true, true, true, true, false, false, true, false] rfl rfl (one_of HT_.out (by kernel_rfl)) (by decide) (fun K hK => ?_)
              refine goes_ Try.func38 (by kernel_rfl) rfl #[.agg #[.bool b.1, .slice Ab b.2.length cb], .string n] (by rfl) rfl rfl (by (try simp only [List.map_toArray, List.map_cons, List.map_nil]); first | done | rfl) ?_
              refine (merge_below.calls KB b.1 Q Ab cb b.2 n (kidO b n).1 (kidO b n).2 _ (V_base (Kd.V_kept VB.out EIc.out.kp (fun k hk => (HQ.out k hk).2))) HKB.out).mono ?_
              rintro e w19 ⟨v19, rfl, hN, hb⟩
              refine ⟨_, rfl, ?_⟩
              obtain ⟨Ak19, ck19, rfl⟩ := Kd.N_slice hN
              have R19 := Aside0.mk (Kd.V_mono (ok' := fun k => (Q k ∨ W6.heap.size ≤ k) ∧ k ≠ gb11) (Kd.N_V (base' := 0) hN) (fun k hk => ⟨hk.imp_right (fun h => Nat.le_trans SZC.out h), fun e => by subst e; rcases hk with hk | hk; (have := (HQ.out _ hk).1; have := G11.out; have := SZ6.out; omega); (have := blk_lt BK11.out; omega)⟩))
              clear hN
              have NE := Aside0.mk (EIc.out.below (Nat.le_trans HBS6.out SZC.out) hb)
              have NS := Aside0.mk (Nat.le_trans SZC.out hb.size)
              have MR11 := Aside0.mk (Kd.V_below R11.out hb)
              clear R11
              have R11 := MR11
              clear MR11
              have MR15 := Aside0.mk (Kd.V_below R15.out hb)
              clear R15
              have R15 := MR15
              clear MR15
              have N11 := Aside0.mk (blk_below BK11.out hb)
              clear BK11
              have BK11 := N11
              clear N11
              clear EIc SZC hb
              have EIc := NE
              have SZC := NS
              clear NE NS
              refine hK.out _ _ ⟨(blk_cell EIc.out.st.blk 0).trans rfl, (blk_cell EIc.out.b5 0).trans rfl, (blk_cell EIc.out.b5 1).trans rfl, (blk_cell EIc.out.b5 2).trans rfl, (blk_cell EIc.out.b5 3).trans rfl, (blk_cell EIc.out.b5 4).trans rfl, (blk_cell EIc.out.b5 5).trans rfl⟩ (fun hHeld => ?_)
              clear hK K
              refine norm_ (a' := ?_) ?_ ?_
              rotate_left
              · show Act.put _ (some 59) _ = _
                simp only [Act.put, List.setIfInBounds_toArray, List.set_cons_zero, List.set_cons_succ, i64_w, i32_w]
                rfl
              refine pure_ (i := 20) (N := some 60) (v := ?_) (a' := ?_) #[true, true, true, true, true, true, true, true, true, true, true, true, true, true, true, true, true, true, true, true, true, false, true, false] rfl rfl (any_of HT_.out (by kernel_rfl)) (fun _ _ _ h => h) (Or.inl ⟨by rfl, ?_⟩) ?_ ?_
              rotate_left
              · intro w'
                go_simp
                with_reducible rfl
              rotate_left
              · simp only [Act.put, List.setIfInBounds_toArray, List.set_cons_zero, List.set_cons_succ, i64_w, i32_w]
                rfl
              refine one_ (i := 21) (N := some 61) #[true, true, true, true, true, true, true, true, true, true, true, true, true, true, true, true, true, true, true, true, true, true, true, false] rfl rfl (one_of HT_.out (by kernel_rfl)) (by decide) (fun K hK => ?_)
              refine goesV_ (x := .tmp 40) (bnd := #[.pointer (some ⟨gm, 0, none⟩)]) Try.func21 (by kernel_rfl) rfl #[.pointer (some ⟨gm, 0, none⟩), .int .i64 (toM s d n), .agg #[.bool (kidO o n).1, .slice Ak11 (kidO o n).2.length ck11, .bool (kidO a n).1, .slice Ak15 (kidO a n).2.length ck15, .bool (kidO b n).1, .slice Ak19 (kidO b n).2.length ck19]] (by rfl) rfl rfl rfl (by simp only [List.map_toArray, List.map_cons, List.map_nil, List.append_toArray, List.cons_append, List.nil_append]; rfl) ?_
              refine (IH (toM s d n) (Q := fun k => ((Q k ∨ W6.heap.size ≤ k) ∧ k ≠ gb11) ∧ k < _) ⟨EIc.out.st, Nat.le_trans HBS6.out SZC.out, HOK.out, hsc, Kd.F_mono (Kd.F_bound (Kd.F_kept SF.out EIc.out.kp (fun k hk => (HQ.out k hk).2))) (fun k hk => ⟨⟨.inl hk.1, fun e => by have h1 := (HQ.out k hk.1).1; have h2 := G11.out; have h3 := SZ6.out; omega⟩, hk.2⟩), V_base (Kd.V_bound R11.out), V_base (Kd.V_bound R15.out), V_base (Kd.V_bound R19.out), fun k hk => ⟨hk.2, HQ6.out k hk.1.1⟩, hoo.kid n, hoa.kid n, hob.kid n, hwd, by rw [List.length_append]; exact HLEN.out, by rw [hlen]; have := HNP.out; omega⟩).mono ?_
              rintro e w21 ⟨vl2, vp2, uo, ua, ub, rfl, hst2, hbb, hkk, hg1, hg2, hv1, hv3, hv5⟩
              refine ⟨_, rfl, ?_⟩
              rw [← HRR.out] at hst2 hv1 hv3 hv5 ⊢
              obtain ⟨Br1, cr1, rfl⟩ := Kd.V_slice hv1
              obtain ⟨Br3, cr3, rfl⟩ := Kd.V_slice hv3
              obtain ⟨Br5, cr5, rfl⟩ := Kd.V_slice hv5
              rw [List.append_assoc] at hst2
              have NE := Aside0.mk (EInv.move EIc.out hkk hbb (cf := acc.2 ++ rr.2) hst2 hg1 hg2)
              have NS := Aside0.mk (Nat.le_trans SZC.out hkk.1)
              have RV1 := Aside0.mk (V_base (b' := 0) (Kd.V_mono hv1 (ok' := fun k => ((Q k ∨ W6.heap.size ≤ k) ∧ ¬ MS gm vl2 vp2 k) ∧ k ≠ gb11) (fun k hk => ⟨⟨hk.1.elim (fun h => h.1.1) (fun h => .inr (Nat.le_trans SZC.out h)), hk.2.2⟩, hk.1.elim (fun h => h.1.2) (fun h e => by have := blk_lt BK11.out; omega)⟩)))
              have RV3 := Aside0.mk (V_base (b' := 0) (Kd.V_mono hv3 (ok' := fun k => ((Q k ∨ W6.heap.size ≤ k) ∧ ¬ MS gm vl2 vp2 k) ∧ k ≠ gb11) (fun k hk => ⟨⟨hk.1.elim (fun h => h.1.1) (fun h => .inr (Nat.le_trans SZC.out h)), hk.2.2⟩, hk.1.elim (fun h => h.1.2) (fun h e => by have := blk_lt BK11.out; omega)⟩)))
              have RV5 := Aside0.mk (V_base (b' := 0) (Kd.V_mono hv5 (ok' := fun k => ((Q k ∨ W6.heap.size ≤ k) ∧ ¬ MS gm vl2 vp2 k) ∧ k ≠ gb11) (fun k hk => ⟨⟨hk.1.elim (fun h => h.1.1) (fun h => .inr (Nat.le_trans SZC.out h)), hk.2.2⟩, hk.1.elim (fun h => h.1.2) (fun h e => by have := blk_lt BK11.out; omega)⟩)))
              have N11 := Aside0.mk (blk_kept BK11.out hkk (not_ms EIc.out.st BK11.out (by decide) (by decide) (by decide)))
              clear BK11
              have BK11 := N11
              clear N11
              clear EIc SZC hbb hkk hg1 hg2 hst2 hv1 hv3 hv5 R11 R15 R19
              have EIc := NE
              have SZC := NS
              clear NE NS
              refine hK.out _ _ ⟨(blk_cell EIc.out.st.blk 0).trans rfl, (blk_cell EIc.out.b5 0).trans rfl, (blk_cell EIc.out.b5 1).trans rfl, (blk_cell EIc.out.b5 2).trans rfl, (blk_cell EIc.out.b5 3).trans rfl, (blk_cell EIc.out.b5 4).trans rfl, (blk_cell EIc.out.b5 5).trans rfl⟩ (fun hHeld => ?_)
              clear hK K
              refine norm_ (a' := ?_) ?_ ?_
              rotate_left
              · show Act.put _ (some 61) _ = _
                simp only [Act.put, List.setIfInBounds_toArray, List.set_cons_zero, List.set_cons_succ, i64_w, i32_w]
                rfl
              exact norm_ (by simp only [putAll, Act.put, List.setIfInBounds_toArray, List.set_cons_zero, List.set_cons_succ]) (hCont (.slice Ak11 (kidO o n).2.length ck11, .slice Ak15 (kidO a n).2.length ck15, .slice Ak19 (kidO b n).2.length ck19, .slice Br1 rr.1.1.2.length cr1, .slice Br3 rr.1.2.1.2.length cr3, .slice Br5 rr.1.2.2.2.length cr5, gb11) _ ⟨hHeld, vl2, vp2, EIc.out, BK11.out, G11.out, RV1.out, RV3.out, RV5.out⟩)
          · skip
            refine value_ (w1 := ?_) (v := ?_) (by rfl) rfl ?_ ?_
            rotate_left 2
            · go_simp
              constructor
              · rfl
              · rfl
            have NE := Aside0.mk (EIc.out.below (Nat.le_trans HBS6.out SZC.out) (below_alloc (Below.refl _ _) (.cells #[.bool false, .slice none 0 0, .bool false, .slice none 0 0, .bool false, .slice none 0 0] 65)))
            have NS := Aside0.mk (Nat.le_trans SZC.out (below_alloc (Below.refl w7.heap.size w7) (.cells #[.bool false, .slice none 0 0, .bool false, .slice none 0 0, .bool false, .slice none 0 0] 65)).size)
            have BK11 := Aside0.mk (blk_new w7 (.cells #[.bool false, .slice none 0 0, .bool false, .slice none 0 0, .bool false, .slice none 0 0] 65))
            have G11 := SZC
            clear EIc SZC
            have EIc := NE
            have SZC := NS
            clear NE NS
            refine hK.out _ _ ⟨(blk_cell EIc.out.st.blk 0).trans rfl, (blk_cell EIc.out.b5 0).trans rfl, (blk_cell EIc.out.b5 1).trans rfl, (blk_cell EIc.out.b5 2).trans rfl, (blk_cell EIc.out.b5 3).trans rfl, (blk_cell EIc.out.b5 4).trans rfl, (blk_cell EIc.out.b5 5).trans rfl⟩ (fun hHeld => ?_)
            clear hK K
            refine norm_ (a' := ?_) ?_ ?_
            rotate_left
            · show Act.put _ (some 11) _ = _
              simp only [Act.put, List.setIfInBounds_toArray, List.set_cons_zero, List.set_cons_succ, i64_w, i32_w]
              rfl
            generalize w7.heap.size = gb11 at BK11 G11  ⊢
            generalize w7.alloc (.cells #[.bool false, .slice none 0 0, .bool false, .slice none 0 0, .bool false, .slice none 0 0] 65) = wA at EIc SZC BK11  hHeld ⊢
            refine one_ (i := 11) (N := some 51) #[true, true, true, true, true, true, true, true, true, true, true, true, true, true, true, false, true, true, true, false, false, false, true, false] rfl rfl (one_of HT_.out (by kernel_rfl)) (by decide) (fun K hK => ?_)
            refine goes_ Try.func38 (by kernel_rfl) rfl #[.agg #[.bool o.1, .slice Ao o.2.length co], .string n] (by rfl) rfl rfl (by (try simp only [List.map_toArray, List.map_cons, List.map_nil]); first | done | rfl) ?_
            refine (merge_below.calls KT o.1 Q Ao co o.2 n (kidO o n).1 (kidO o n).2 _ (V_base (Kd.V_kept VO.out EIc.out.kp (fun k hk => (HQ.out k hk).2))) HKO.out).mono ?_
            rintro e w11 ⟨v11, rfl, hN, hb⟩
            refine ⟨_, rfl, ?_⟩
            obtain ⟨Ak11, ck11, rfl⟩ := Kd.N_slice hN
            have R11 := Aside0.mk (Kd.V_mono (ok' := fun k => (Q k ∨ W6.heap.size ≤ k) ∧ k ≠ gb11) (Kd.N_V (base' := 0) hN) (fun k hk => ⟨hk.imp_right (fun h => Nat.le_trans SZC.out h), fun e => by subst e; rcases hk with hk | hk; (have := (HQ.out _ hk).1; have := G11.out; have := SZ6.out; omega); (have := blk_lt BK11.out; omega)⟩))
            clear hN
            have NE := Aside0.mk (EIc.out.below (Nat.le_trans HBS6.out SZC.out) hb)
            have NS := Aside0.mk (Nat.le_trans SZC.out hb.size)
            have N11 := Aside0.mk (blk_below BK11.out hb)
            clear BK11
            have BK11 := N11
            clear N11
            clear EIc SZC hb
            have EIc := NE
            have SZC := NS
            clear NE NS
            refine hK.out _ _ ⟨(blk_cell EIc.out.st.blk 0).trans rfl, (blk_cell EIc.out.b5 0).trans rfl, (blk_cell EIc.out.b5 1).trans rfl, (blk_cell EIc.out.b5 2).trans rfl, (blk_cell EIc.out.b5 3).trans rfl, (blk_cell EIc.out.b5 4).trans rfl, (blk_cell EIc.out.b5 5).trans rfl⟩ (fun hHeld => ?_)
            clear hK K
            refine norm_ (a' := ?_) ?_ ?_
            rotate_left
            · show Act.put _ (some 51) _ = _
              simp only [Act.put, List.setIfInBounds_toArray, List.set_cons_zero, List.set_cons_succ, i64_w, i32_w]
              rfl
            refine one_ (i := 15) (N := some 55) #[true, true, true, true, true, true, true, true, true, true, true, true, true, true, true, true, true, true, true, false, false, false, true, false] rfl rfl (one_of HT_.out (by kernel_rfl)) (by decide) (fun K hK => ?_)
            refine goes_ Try.func38 (by kernel_rfl) rfl #[.agg #[.bool a.1, .slice Aa a.2.length ca], .string n] (by rfl) rfl rfl (by (try simp only [List.map_toArray, List.map_cons, List.map_nil]); first | done | rfl) ?_
            refine (merge_below.calls KA a.1 Q Aa ca a.2 n (kidO a n).1 (kidO a n).2 _ (V_base (Kd.V_kept VA.out EIc.out.kp (fun k hk => (HQ.out k hk).2))) HKA.out).mono ?_
            rintro e w15 ⟨v15, rfl, hN, hb⟩
            refine ⟨_, rfl, ?_⟩
            obtain ⟨Ak15, ck15, rfl⟩ := Kd.N_slice hN
            have R15 := Aside0.mk (Kd.V_mono (ok' := fun k => (Q k ∨ W6.heap.size ≤ k) ∧ k ≠ gb11) (Kd.N_V (base' := 0) hN) (fun k hk => ⟨hk.imp_right (fun h => Nat.le_trans SZC.out h), fun e => by subst e; rcases hk with hk | hk; (have := (HQ.out _ hk).1; have := G11.out; have := SZ6.out; omega); (have := blk_lt BK11.out; omega)⟩))
            clear hN
            have NE := Aside0.mk (EIc.out.below (Nat.le_trans HBS6.out SZC.out) hb)
            have NS := Aside0.mk (Nat.le_trans SZC.out hb.size)
            have MR11 := Aside0.mk (Kd.V_below R11.out hb)
            clear R11
            have R11 := MR11
            clear MR11
            have N11 := Aside0.mk (blk_below BK11.out hb)
            clear BK11
            have BK11 := N11
            clear N11
            clear EIc SZC hb
            have EIc := NE
            have SZC := NS
            clear NE NS
            refine hK.out _ _ ⟨(blk_cell EIc.out.st.blk 0).trans rfl, (blk_cell EIc.out.b5 0).trans rfl, (blk_cell EIc.out.b5 1).trans rfl, (blk_cell EIc.out.b5 2).trans rfl, (blk_cell EIc.out.b5 3).trans rfl, (blk_cell EIc.out.b5 4).trans rfl, (blk_cell EIc.out.b5 5).trans rfl⟩ (fun hHeld => ?_)
            clear hK K
            refine norm_ (a' := ?_) ?_ ?_
            rotate_left
            · show Act.put _ (some 55) _ = _
              simp only [Act.put, List.setIfInBounds_toArray, List.set_cons_zero, List.set_cons_succ, i64_w, i32_w]
              rfl
            refine one_ (i := 19) (N := some 59) #[true, true, true, true, true, true, true, true, true, true, true, true, true, true, true, true, true, true, true, true, false, false, true, false] rfl rfl (one_of HT_.out (by kernel_rfl)) (by decide) (fun K hK => ?_)
            refine goes_ Try.func38 (by kernel_rfl) rfl #[.agg #[.bool b.1, .slice Ab b.2.length cb], .string n] (by rfl) rfl rfl (by (try simp only [List.map_toArray, List.map_cons, List.map_nil]); first | done | rfl) ?_
            refine (merge_below.calls KB b.1 Q Ab cb b.2 n (kidO b n).1 (kidO b n).2 _ (V_base (Kd.V_kept VB.out EIc.out.kp (fun k hk => (HQ.out k hk).2))) HKB.out).mono ?_
            rintro e w19 ⟨v19, rfl, hN, hb⟩
            refine ⟨_, rfl, ?_⟩
            obtain ⟨Ak19, ck19, rfl⟩ := Kd.N_slice hN
            have R19 := Aside0.mk (Kd.V_mono (ok' := fun k => (Q k ∨ W6.heap.size ≤ k) ∧ k ≠ gb11) (Kd.N_V (base' := 0) hN) (fun k hk => ⟨hk.imp_right (fun h => Nat.le_trans SZC.out h), fun e => by subst e; rcases hk with hk | hk; (have := (HQ.out _ hk).1; have := G11.out; have := SZ6.out; omega); (have := blk_lt BK11.out; omega)⟩))
            clear hN
            have NE := Aside0.mk (EIc.out.below (Nat.le_trans HBS6.out SZC.out) hb)
            have NS := Aside0.mk (Nat.le_trans SZC.out hb.size)
            have MR11 := Aside0.mk (Kd.V_below R11.out hb)
            clear R11
            have R11 := MR11
            clear MR11
            have MR15 := Aside0.mk (Kd.V_below R15.out hb)
            clear R15
            have R15 := MR15
            clear MR15
            have N11 := Aside0.mk (blk_below BK11.out hb)
            clear BK11
            have BK11 := N11
            clear N11
            clear EIc SZC hb
            have EIc := NE
            have SZC := NS
            clear NE NS
            refine hK.out _ _ ⟨(blk_cell EIc.out.st.blk 0).trans rfl, (blk_cell EIc.out.b5 0).trans rfl, (blk_cell EIc.out.b5 1).trans rfl, (blk_cell EIc.out.b5 2).trans rfl, (blk_cell EIc.out.b5 3).trans rfl, (blk_cell EIc.out.b5 4).trans rfl, (blk_cell EIc.out.b5 5).trans rfl⟩ (fun hHeld => ?_)
            clear hK K
            refine norm_ (a' := ?_) ?_ ?_
            rotate_left
            · show Act.put _ (some 59) _ = _
              simp only [Act.put, List.setIfInBounds_toArray, List.set_cons_zero, List.set_cons_succ, i64_w, i32_w]
              rfl
            refine pure_ (i := 20) (N := some 60) (v := ?_) (a' := ?_) #[true, true, true, true, true, true, true, true, true, true, true, true, true, true, true, true, true, true, true, true, true, false, true, false] rfl rfl (any_of HT_.out (by kernel_rfl)) (fun _ _ _ h => h) (Or.inl ⟨by rfl, ?_⟩) ?_ ?_
            rotate_left
            · intro w'
              go_simp
              with_reducible rfl
            rotate_left
            · simp only [Act.put, List.setIfInBounds_toArray, List.set_cons_zero, List.set_cons_succ, i64_w, i32_w]
              rfl
            refine one_ (i := 21) (N := some 61) #[true, true, true, true, true, true, true, true, true, true, true, true, true, true, true, true, true, true, true, true, true, true, true, false] rfl rfl (one_of HT_.out (by kernel_rfl)) (by decide) (fun K hK => ?_)
            refine goesV_ (x := .tmp 40) (bnd := #[.pointer (some ⟨gm, 0, none⟩)]) Try.func21 (by kernel_rfl) rfl #[.pointer (some ⟨gm, 0, none⟩), .int .i64 (toM s d n), .agg #[.bool (kidO o n).1, .slice Ak11 (kidO o n).2.length ck11, .bool (kidO a n).1, .slice Ak15 (kidO a n).2.length ck15, .bool (kidO b n).1, .slice Ak19 (kidO b n).2.length ck19]] (by rfl) rfl rfl rfl (by simp only [List.map_toArray, List.map_cons, List.map_nil, List.append_toArray, List.cons_append, List.nil_append]; rfl) ?_
            refine (IH (toM s d n) (Q := fun k => ((Q k ∨ W6.heap.size ≤ k) ∧ k ≠ gb11) ∧ k < _) ⟨EIc.out.st, Nat.le_trans HBS6.out SZC.out, HOK.out, hsc, Kd.F_mono (Kd.F_bound (Kd.F_kept SF.out EIc.out.kp (fun k hk => (HQ.out k hk).2))) (fun k hk => ⟨⟨.inl hk.1, fun e => by have h1 := (HQ.out k hk.1).1; have h2 := G11.out; have h3 := SZ6.out; omega⟩, hk.2⟩), V_base (Kd.V_bound R11.out), V_base (Kd.V_bound R15.out), V_base (Kd.V_bound R19.out), fun k hk => ⟨hk.2, HQ6.out k hk.1.1⟩, hoo.kid n, hoa.kid n, hob.kid n, hwd, by rw [List.length_append]; exact HLEN.out, by rw [hlen]; have := HNP.out; omega⟩).mono ?_
            rintro e w21 ⟨vl2, vp2, uo, ua, ub, rfl, hst2, hbb, hkk, hg1, hg2, hv1, hv3, hv5⟩
            refine ⟨_, rfl, ?_⟩
            rw [← HRR.out] at hst2 hv1 hv3 hv5 ⊢
            obtain ⟨Br1, cr1, rfl⟩ := Kd.V_slice hv1
            obtain ⟨Br3, cr3, rfl⟩ := Kd.V_slice hv3
            obtain ⟨Br5, cr5, rfl⟩ := Kd.V_slice hv5
            rw [List.append_assoc] at hst2
            have NE := Aside0.mk (EInv.move EIc.out hkk hbb (cf := acc.2 ++ rr.2) hst2 hg1 hg2)
            have NS := Aside0.mk (Nat.le_trans SZC.out hkk.1)
            have RV1 := Aside0.mk (V_base (b' := 0) (Kd.V_mono hv1 (ok' := fun k => ((Q k ∨ W6.heap.size ≤ k) ∧ ¬ MS gm vl2 vp2 k) ∧ k ≠ gb11) (fun k hk => ⟨⟨hk.1.elim (fun h => h.1.1) (fun h => .inr (Nat.le_trans SZC.out h)), hk.2.2⟩, hk.1.elim (fun h => h.1.2) (fun h e => by have := blk_lt BK11.out; omega)⟩)))
            have RV3 := Aside0.mk (V_base (b' := 0) (Kd.V_mono hv3 (ok' := fun k => ((Q k ∨ W6.heap.size ≤ k) ∧ ¬ MS gm vl2 vp2 k) ∧ k ≠ gb11) (fun k hk => ⟨⟨hk.1.elim (fun h => h.1.1) (fun h => .inr (Nat.le_trans SZC.out h)), hk.2.2⟩, hk.1.elim (fun h => h.1.2) (fun h e => by have := blk_lt BK11.out; omega)⟩)))
            have RV5 := Aside0.mk (V_base (b' := 0) (Kd.V_mono hv5 (ok' := fun k => ((Q k ∨ W6.heap.size ≤ k) ∧ ¬ MS gm vl2 vp2 k) ∧ k ≠ gb11) (fun k hk => ⟨⟨hk.1.elim (fun h => h.1.1) (fun h => .inr (Nat.le_trans SZC.out h)), hk.2.2⟩, hk.1.elim (fun h => h.1.2) (fun h e => by have := blk_lt BK11.out; omega)⟩)))
            have N11 := Aside0.mk (blk_kept BK11.out hkk (not_ms EIc.out.st BK11.out (by decide) (by decide) (by decide)))
            clear BK11
            have BK11 := N11
            clear N11
            clear EIc SZC hbb hkk hg1 hg2 hst2 hv1 hv3 hv5 R11 R15 R19
            have EIc := NE
            have SZC := NS
            clear NE NS
            refine hK.out _ _ ⟨(blk_cell EIc.out.st.blk 0).trans rfl, (blk_cell EIc.out.b5 0).trans rfl, (blk_cell EIc.out.b5 1).trans rfl, (blk_cell EIc.out.b5 2).trans rfl, (blk_cell EIc.out.b5 3).trans rfl, (blk_cell EIc.out.b5 4).trans rfl, (blk_cell EIc.out.b5 5).trans rfl⟩ (fun hHeld => ?_)
            clear hK K
            refine norm_ (a' := ?_) ?_ ?_
            rotate_left
            · show Act.put _ (some 61) _ = _
              simp only [Act.put, List.setIfInBounds_toArray, List.set_cons_zero, List.set_cons_succ, i64_w, i32_w]
              rfl
            exact norm_ (by simp only [putAll, Act.put, List.setIfInBounds_toArray, List.set_cons_zero, List.set_cons_succ]) (hCont (.slice Ak11 (kidO o n).2.length ck11, .slice Ak15 (kidO a n).2.length ck15, .slice Ak19 (kidO b n).2.length ck19, .slice Br1 rr.1.1.2.length cr1, .slice Br3 rr.1.2.1.2.length cr3, .slice Br5 rr.1.2.2.2.length cr5, gb11) _ ⟨hHeld, vl2, vp2, EIc.out, BK11.out, G11.out, RV1.out, RV3.out, RV5.out⟩)
        · skip
          refine value_ (w1 := ?_) (v := ?_) (by rfl) rfl ?_ ?_
          rotate_left 2
          · go_simp
            constructor
            · rfl
            · rfl
          have NE := Aside0.mk (EIc.out.below (Nat.le_trans HBS6.out SZC.out) (below_alloc (Below.refl _ _) (.cells #[.bool false, .slice none 0 0, .bool false, .slice none 0 0, .bool false, .slice none 0 0] 65)))
          have NS := Aside0.mk (Nat.le_trans SZC.out (below_alloc (Below.refl W1_.heap.size W1_) (.cells #[.bool false, .slice none 0 0, .bool false, .slice none 0 0, .bool false, .slice none 0 0] 65)).size)
          have BK11 := Aside0.mk (blk_new W1_ (.cells #[.bool false, .slice none 0 0, .bool false, .slice none 0 0, .bool false, .slice none 0 0] 65))
          have G11 := SZC
          clear EIc SZC
          have EIc := NE
          have SZC := NS
          clear NE NS
          refine hK.out _ _ ⟨(blk_cell EIc.out.st.blk 0).trans rfl, (blk_cell EIc.out.b5 0).trans rfl, (blk_cell EIc.out.b5 1).trans rfl, (blk_cell EIc.out.b5 2).trans rfl, (blk_cell EIc.out.b5 3).trans rfl, (blk_cell EIc.out.b5 4).trans rfl, (blk_cell EIc.out.b5 5).trans rfl⟩ (fun hHeld => ?_)
          clear hK K
          refine norm_ (a' := ?_) ?_ ?_
          rotate_left
          · show Act.put _ (some 11) _ = _
            simp only [Act.put, List.setIfInBounds_toArray, List.set_cons_zero, List.set_cons_succ, i64_w, i32_w]
            rfl
          generalize W1_.heap.size = gb11 at BK11 G11  ⊢
          generalize W1_.alloc (.cells #[.bool false, .slice none 0 0, .bool false, .slice none 0 0, .bool false, .slice none 0 0] 65) = wA at EIc SZC BK11  hHeld ⊢
          refine one_ (i := 7) (N := some 47) #[true, true, true, true, true, true, true, true, true, true, true, false, true, true, true, false, true, true, true, false, false, false, true, false] rfl rfl (one_of HT_.out (by kernel_rfl)) (by decide) (fun K hK => ?_)
          refine goes_ Try.func37 (by kernel_rfl) rfl #[.slice As s.length cs, .int .i64 d, .string n] (by rfl) rfl rfl (by (try simp only [List.map_toArray, List.map_cons, List.map_nil]); first | done | rfl) ?_
          refine (schema_To.calls As cs s d n (toM s d n) _ (Kd.F_now (Kd.F_kept SF.out EIc.out.kp (fun k hk => (HQ.out k hk).2))) hsc (by unfold schema_To.f; rw [if_pos HOK.out])).mono ?_
          rintro e w7 ⟨rfl, hb⟩
          refine ⟨_, rfl, ?_⟩
          have NE := Aside0.mk (EIc.out.below (Nat.le_trans HBS6.out SZC.out) hb)
          have NS := Aside0.mk (Nat.le_trans SZC.out hb.size)
          have N11 := Aside0.mk (blk_below BK11.out hb)
          clear BK11
          have BK11 := N11
          clear N11
          clear EIc SZC hb
          have EIc := NE
          have SZC := NS
          clear NE NS
          refine hK.out _ _ ⟨(blk_cell EIc.out.st.blk 0).trans rfl, (blk_cell EIc.out.b5 0).trans rfl, (blk_cell EIc.out.b5 1).trans rfl, (blk_cell EIc.out.b5 2).trans rfl, (blk_cell EIc.out.b5 3).trans rfl, (blk_cell EIc.out.b5 4).trans rfl, (blk_cell EIc.out.b5 5).trans rfl⟩ (fun hHeld => ?_)
          clear hK K
          refine norm_ (a' := ?_) ?_ ?_
          rotate_left
          · show Act.put _ (some 47) _ = _
            simp only [Act.put, List.setIfInBounds_toArray, List.set_cons_zero, List.set_cons_succ, i64_w, i32_w]
            rfl
          refine one_ (i := 11) (N := some 51) #[true, true, true, true, true, true, true, true, true, true, true, true, true, true, true, false, true, true, true, false, false, false, true, false] rfl rfl (one_of HT_.out (by kernel_rfl)) (by decide) (fun K hK => ?_)
          refine goes_ Try.func38 (by kernel_rfl) rfl #[.agg #[.bool o.1, .slice Ao o.2.length co], .string n] (by rfl) rfl rfl (by (try simp only [List.map_toArray, List.map_cons, List.map_nil]); first | done | rfl) ?_
          refine (merge_below.calls KT o.1 Q Ao co o.2 n (kidO o n).1 (kidO o n).2 _ (V_base (Kd.V_kept VO.out EIc.out.kp (fun k hk => (HQ.out k hk).2))) HKO.out).mono ?_
          rintro e w11 ⟨v11, rfl, hN, hb⟩
          refine ⟨_, rfl, ?_⟩
          obtain ⟨Ak11, ck11, rfl⟩ := Kd.N_slice hN
          have R11 := Aside0.mk (Kd.V_mono (ok' := fun k => (Q k ∨ W6.heap.size ≤ k) ∧ k ≠ gb11) (Kd.N_V (base' := 0) hN) (fun k hk => ⟨hk.imp_right (fun h => Nat.le_trans SZC.out h), fun e => by subst e; rcases hk with hk | hk; (have := (HQ.out _ hk).1; have := G11.out; have := SZ6.out; omega); (have := blk_lt BK11.out; omega)⟩))
          clear hN
          have NE := Aside0.mk (EIc.out.below (Nat.le_trans HBS6.out SZC.out) hb)
          have NS := Aside0.mk (Nat.le_trans SZC.out hb.size)
          have N11 := Aside0.mk (blk_below BK11.out hb)
          clear BK11
          have BK11 := N11
          clear N11
          clear EIc SZC hb
          have EIc := NE
          have SZC := NS
          clear NE NS
          refine hK.out _ _ ⟨(blk_cell EIc.out.st.blk 0).trans rfl, (blk_cell EIc.out.b5 0).trans rfl, (blk_cell EIc.out.b5 1).trans rfl, (blk_cell EIc.out.b5 2).trans rfl, (blk_cell EIc.out.b5 3).trans rfl, (blk_cell EIc.out.b5 4).trans rfl, (blk_cell EIc.out.b5 5).trans rfl⟩ (fun hHeld => ?_)
          clear hK K
          refine norm_ (a' := ?_) ?_ ?_
          rotate_left
          · show Act.put _ (some 51) _ = _
            simp only [Act.put, List.setIfInBounds_toArray, List.set_cons_zero, List.set_cons_succ, i64_w, i32_w]
            rfl
          refine one_ (i := 15) (N := some 55) #[true, true, true, true, true, true, true, true, true, true, true, true, true, true, true, true, true, true, true, false, false, false, true, false] rfl rfl (one_of HT_.out (by kernel_rfl)) (by decide) (fun K hK => ?_)
          refine goes_ Try.func38 (by kernel_rfl) rfl #[.agg #[.bool a.1, .slice Aa a.2.length ca], .string n] (by rfl) rfl rfl (by (try simp only [List.map_toArray, List.map_cons, List.map_nil]); first | done | rfl) ?_
          refine (merge_below.calls KA a.1 Q Aa ca a.2 n (kidO a n).1 (kidO a n).2 _ (V_base (Kd.V_kept VA.out EIc.out.kp (fun k hk => (HQ.out k hk).2))) HKA.out).mono ?_
          rintro e w15 ⟨v15, rfl, hN, hb⟩
          refine ⟨_, rfl, ?_⟩
          obtain ⟨Ak15, ck15, rfl⟩ := Kd.N_slice hN
          have R15 := Aside0.mk (Kd.V_mono (ok' := fun k => (Q k ∨ W6.heap.size ≤ k) ∧ k ≠ gb11) (Kd.N_V (base' := 0) hN) (fun k hk => ⟨hk.imp_right (fun h => Nat.le_trans SZC.out h), fun e => by subst e; rcases hk with hk | hk; (have := (HQ.out _ hk).1; have := G11.out; have := SZ6.out; omega); (have := blk_lt BK11.out; omega)⟩))
          clear hN
          have NE := Aside0.mk (EIc.out.below (Nat.le_trans HBS6.out SZC.out) hb)
          have NS := Aside0.mk (Nat.le_trans SZC.out hb.size)
          have MR11 := Aside0.mk (Kd.V_below R11.out hb)
          clear R11
          have R11 := MR11
          clear MR11
          have N11 := Aside0.mk (blk_below BK11.out hb)
          clear BK11
          have BK11 := N11
          clear N11
          clear EIc SZC hb
          have EIc := NE
          have SZC := NS
          clear NE NS
          refine hK.out _ _ ⟨(blk_cell EIc.out.st.blk 0).trans rfl, (blk_cell EIc.out.b5 0).trans rfl, (blk_cell EIc.out.b5 1).trans rfl, (blk_cell EIc.out.b5 2).trans rfl, (blk_cell EIc.out.b5 3).trans rfl, (blk_cell EIc.out.b5 4).trans rfl, (blk_cell EIc.out.b5 5).trans rfl⟩ (fun hHeld => ?_)
          clear hK K
          refine norm_ (a' := ?_) ?_ ?_
          rotate_left
          · show Act.put _ (some 55) _ = _
            simp only [Act.put, List.setIfInBounds_toArray, List.set_cons_zero, List.set_cons_succ, i64_w, i32_w]
            rfl
          refine one_ (i := 19) (N := some 59) #[true, true, true, true, true, true, true, true, true, true, true, true, true, true, true, true, true, true, true, true, false, false, true, false] rfl rfl (one_of HT_.out (by kernel_rfl)) (by decide) (fun K hK => ?_)
          refine goes_ Try.func38 (by kernel_rfl) rfl #[.agg #[.bool b.1, .slice Ab b.2.length cb], .string n] (by rfl) rfl rfl (by (try simp only [List.map_toArray, List.map_cons, List.map_nil]); first | done | rfl) ?_
          refine (merge_below.calls KB b.1 Q Ab cb b.2 n (kidO b n).1 (kidO b n).2 _ (V_base (Kd.V_kept VB.out EIc.out.kp (fun k hk => (HQ.out k hk).2))) HKB.out).mono ?_
          rintro e w19 ⟨v19, rfl, hN, hb⟩
          refine ⟨_, rfl, ?_⟩
          obtain ⟨Ak19, ck19, rfl⟩ := Kd.N_slice hN
          have R19 := Aside0.mk (Kd.V_mono (ok' := fun k => (Q k ∨ W6.heap.size ≤ k) ∧ k ≠ gb11) (Kd.N_V (base' := 0) hN) (fun k hk => ⟨hk.imp_right (fun h => Nat.le_trans SZC.out h), fun e => by subst e; rcases hk with hk | hk; (have := (HQ.out _ hk).1; have := G11.out; have := SZ6.out; omega); (have := blk_lt BK11.out; omega)⟩))
          clear hN
          have NE := Aside0.mk (EIc.out.below (Nat.le_trans HBS6.out SZC.out) hb)
          have NS := Aside0.mk (Nat.le_trans SZC.out hb.size)
          have MR11 := Aside0.mk (Kd.V_below R11.out hb)
          clear R11
          have R11 := MR11
          clear MR11
          have MR15 := Aside0.mk (Kd.V_below R15.out hb)
          clear R15
          have R15 := MR15
          clear MR15
          have N11 := Aside0.mk (blk_below BK11.out hb)
          clear BK11
          have BK11 := N11
          clear N11
          clear EIc SZC hb
          have EIc := NE
          have SZC := NS
          clear NE NS
          refine hK.out _ _ ⟨(blk_cell EIc.out.st.blk 0).trans rfl, (blk_cell EIc.out.b5 0).trans rfl, (blk_cell EIc.out.b5 1).trans rfl, (blk_cell EIc.out.b5 2).trans rfl, (blk_cell EIc.out.b5 3).trans rfl, (blk_cell EIc.out.b5 4).trans rfl, (blk_cell EIc.out.b5 5).trans rfl⟩ (fun hHeld => ?_)
          clear hK K
          refine norm_ (a' := ?_) ?_ ?_
          rotate_left
          · show Act.put _ (some 59) _ = _
            simp only [Act.put, List.setIfInBounds_toArray, List.set_cons_zero, List.set_cons_succ, i64_w, i32_w]
            rfl
          refine pure_ (i := 20) (N := some 60) (v := ?_) (a' := ?_) #[true, true, true, true, true, true, true, true, true, true, true, true, true, true, true, true, true, true, true, true, true, false, true, false] rfl rfl (any_of HT_.out (by kernel_rfl)) (fun _ _ _ h => h) (Or.inl ⟨by rfl, ?_⟩) ?_ ?_
          rotate_left
          · intro w'
            go_simp
            with_reducible rfl
          rotate_left
          · simp only [Act.put, List.setIfInBounds_toArray, List.set_cons_zero, List.set_cons_succ, i64_w, i32_w]
            rfl
          refine one_ (i := 21) (N := some 61) #[true, true, true, true, true, true, true, true, true, true, true, true, true, true, true, true, true, true, true, true, true, true, true, false] rfl rfl (one_of HT_.out (by kernel_rfl)) (by decide) (fun K hK => ?_)
          refine goesV_ (x := .tmp 40) (bnd := #[.pointer (some ⟨gm, 0, none⟩)]) Try.func21 (by kernel_rfl) rfl #[.pointer (some ⟨gm, 0, none⟩), .int .i64 (toM s d n), .agg #[.bool (kidO o n).1, .slice Ak11 (kidO o n).2.length ck11, .bool (kidO a n).1, .slice Ak15 (kidO a n).2.length ck15, .bool (kidO b n).1, .slice Ak19 (kidO b n).2.length ck19]] (by rfl) rfl rfl rfl (by simp only [List.map_toArray, List.map_cons, List.map_nil, List.append_toArray, List.cons_append, List.nil_append]; rfl) ?_
          refine (IH (toM s d n) (Q := fun k => ((Q k ∨ W6.heap.size ≤ k) ∧ k ≠ gb11) ∧ k < _) ⟨EIc.out.st, Nat.le_trans HBS6.out SZC.out, HOK.out, hsc, Kd.F_mono (Kd.F_bound (Kd.F_kept SF.out EIc.out.kp (fun k hk => (HQ.out k hk).2))) (fun k hk => ⟨⟨.inl hk.1, fun e => by have h1 := (HQ.out k hk.1).1; have h2 := G11.out; have h3 := SZ6.out; omega⟩, hk.2⟩), V_base (Kd.V_bound R11.out), V_base (Kd.V_bound R15.out), V_base (Kd.V_bound R19.out), fun k hk => ⟨hk.2, HQ6.out k hk.1.1⟩, hoo.kid n, hoa.kid n, hob.kid n, hwd, by rw [List.length_append]; exact HLEN.out, by rw [hlen]; have := HNP.out; omega⟩).mono ?_
          rintro e w21 ⟨vl2, vp2, uo, ua, ub, rfl, hst2, hbb, hkk, hg1, hg2, hv1, hv3, hv5⟩
          refine ⟨_, rfl, ?_⟩
          rw [← HRR.out] at hst2 hv1 hv3 hv5 ⊢
          obtain ⟨Br1, cr1, rfl⟩ := Kd.V_slice hv1
          obtain ⟨Br3, cr3, rfl⟩ := Kd.V_slice hv3
          obtain ⟨Br5, cr5, rfl⟩ := Kd.V_slice hv5
          rw [List.append_assoc] at hst2
          have NE := Aside0.mk (EInv.move EIc.out hkk hbb (cf := acc.2 ++ rr.2) hst2 hg1 hg2)
          have NS := Aside0.mk (Nat.le_trans SZC.out hkk.1)
          have RV1 := Aside0.mk (V_base (b' := 0) (Kd.V_mono hv1 (ok' := fun k => ((Q k ∨ W6.heap.size ≤ k) ∧ ¬ MS gm vl2 vp2 k) ∧ k ≠ gb11) (fun k hk => ⟨⟨hk.1.elim (fun h => h.1.1) (fun h => .inr (Nat.le_trans SZC.out h)), hk.2.2⟩, hk.1.elim (fun h => h.1.2) (fun h e => by have := blk_lt BK11.out; omega)⟩)))
          have RV3 := Aside0.mk (V_base (b' := 0) (Kd.V_mono hv3 (ok' := fun k => ((Q k ∨ W6.heap.size ≤ k) ∧ ¬ MS gm vl2 vp2 k) ∧ k ≠ gb11) (fun k hk => ⟨⟨hk.1.elim (fun h => h.1.1) (fun h => .inr (Nat.le_trans SZC.out h)), hk.2.2⟩, hk.1.elim (fun h => h.1.2) (fun h e => by have := blk_lt BK11.out; omega)⟩)))
          have RV5 := Aside0.mk (V_base (b' := 0) (Kd.V_mono hv5 (ok' := fun k => ((Q k ∨ W6.heap.size ≤ k) ∧ ¬ MS gm vl2 vp2 k) ∧ k ≠ gb11) (fun k hk => ⟨⟨hk.1.elim (fun h => h.1.1) (fun h => .inr (Nat.le_trans SZC.out h)), hk.2.2⟩, hk.1.elim (fun h => h.1.2) (fun h e => by have := blk_lt BK11.out; omega)⟩)))
          have N11 := Aside0.mk (blk_kept BK11.out hkk (not_ms EIc.out.st BK11.out (by decide) (by decide) (by decide)))
          clear BK11
          have BK11 := N11
          clear N11
          clear EIc SZC hbb hkk hg1 hg2 hst2 hv1 hv3 hv5 R11 R15 R19
          have EIc := NE
          have SZC := NS
          clear NE NS
          refine hK.out _ _ ⟨(blk_cell EIc.out.st.blk 0).trans rfl, (blk_cell EIc.out.b5 0).trans rfl, (blk_cell EIc.out.b5 1).trans rfl, (blk_cell EIc.out.b5 2).trans rfl, (blk_cell EIc.out.b5 3).trans rfl, (blk_cell EIc.out.b5 4).trans rfl, (blk_cell EIc.out.b5 5).trans rfl⟩ (fun hHeld => ?_)
          clear hK K
          refine norm_ (a' := ?_) ?_ ?_
          rotate_left
          · show Act.put _ (some 61) _ = _
            simp only [Act.put, List.setIfInBounds_toArray, List.set_cons_zero, List.set_cons_succ, i64_w, i32_w]
            rfl
          exact norm_ (by simp only [putAll, Act.put, List.setIfInBounds_toArray, List.set_cons_zero, List.set_cons_succ]) (hCont (.slice Ak11 (kidO o n).2.length ck11, .slice Ak15 (kidO a n).2.length ck15, .slice Ak19 (kidO b n).2.length ck19, .slice Br1 rr.1.1.2.length cr1, .slice Br3 rr.1.2.1.2.length cr3, .slice Br5 rr.1.2.2.2.length cr5, gb11) _ ⟨hHeld, vl2, vp2, EIc.out, BK11.out, G11.out, RV1.out, RV3.out, RV5.out⟩)
      rintro ⟨k51_, k55_, k59_, u1_, u3_, u5_, gb11⟩ w22 ⟨hHeld, vl2, vp2, hE, hK11, hG, hv1, hv3, hv5⟩
      simp only at hE hK11 hG hv1 hv3 hv5
      obtain ⟨Br1, cr1, rfl⟩ := Kd.V_slice hv1
      obtain ⟨Br3, cr3, rfl⟩ := Kd.V_slice hv3
      obtain ⟨Br5, cr5, rfl⟩ := Kd.V_slice hv5
      have EIc := Aside0.mk hE
      have BK11 := Aside0.mk hK11
      have G11 := Aside0.mk hG
      have RV1 := Aside0.mk hv1
      have RV3 := Aside0.mk hv3
      have RV5 := Aside0.mk hv5
      clear hE hK11 hG hv1 hv3 hv5
      refine norm_ (a' := ?_) ?_ ?_
      rotate_left
      · simp only [putAll, Act.put, List.setIfInBounds_toArray, List.set_cons_zero, List.set_cons_succ]
        rfl
      refine last_ (i := 23) (N := none) #[true, true, true, true, true, true, true, true, true, true, true, true, true, true, true, true, true, true, true, true, true, true, true, true] rfl rfl (one_of HT_.out (by kernel_rfl)) (by decide) (fun K hK => ?_)
      have hs0 : w22.cell? ⟨gb11, 0, none⟩ = some (.bool false) := (blk_cell BK11.out 0).trans rfl
      have hf0 := blk_frozen BK11.out 0
      have hs1 : w22.cell? ⟨gb11, 1, none⟩ = some (.slice none 0 0) := (blk_cell BK11.out 1).trans rfl
      have hf1 := blk_frozen BK11.out 1
      have hs2 : w22.cell? ⟨gb11, 2, none⟩ = some (.bool false) := (blk_cell BK11.out 2).trans rfl
      have hf2 := blk_frozen BK11.out 2
      have hs3 : w22.cell? ⟨gb11, 3, none⟩ = some (.slice none 0 0) := (blk_cell BK11.out 3).trans rfl
      have hf3 := blk_frozen BK11.out 3
      have hs4 : w22.cell? ⟨gb11, 4, none⟩ = some (.bool false) := (blk_cell BK11.out 4).trans rfl
      have hf4 := blk_frozen BK11.out 4
      have hs5 : w22.cell? ⟨gb11, 5, none⟩ = some (.slice none 0 0) := (blk_cell BK11.out 5).trans rfl
      have hf5 := blk_frozen BK11.out 5
      refine skip_ (w1 := ?_) (by rfl) rfl ?_ ?_
      rotate_left
      · go_simp
        rfl
      refine hK.out _ _ ?_
      clear hK K
      refine done_ (done_of HT_.out (by kernel_rfl)) ?_
      go_wp2
      have hg11w : w.heap.size ≤ gb11 := Nat.le_trans SZ6.out G11.out
      have h5n : gb5 ≠ gb11 := by have h1 := blk_lt EI6.out.b5; have h2 := G11.out; omega
      have h6n : gb6 ≠ gb11 := by have h1 := blk_lt EI6.out.b6; have h2 := G11.out; omega
      have E8 := Aside0.mk (EInv.put6 EIc.out BK11.out (v0 := .bool rr.1.1.1) (v1 := .slice Br1 rr.1.1.2.length cr1) (v2 := .bool rr.1.2.1.1) (v3 := .slice Br3 rr.1.2.1.2.length cr3) (v4 := .bool rr.1.2.2.1) (v5 := .slice Br5 rr.1.2.2.2.length cr5) hg11w hbs (.inr G11.out) h5n h6n)
      have B11 := Aside0.mk (put6_blk BK11.out (v0 := .bool rr.1.1.1) (v1 := .slice Br1 rr.1.1.2.length cr1) (v2 := .bool rr.1.2.1.1) (v3 := .slice Br3 rr.1.2.1.2.length cr3) (v4 := .bool rr.1.2.2.1) (v5 := .slice Br5 rr.1.2.2.2.length cr5))
      have NV1 := Aside0.mk (put6_V (v0 := .bool rr.1.1.1) (v1 := .slice Br1 rr.1.1.2.length cr1) (v2 := .bool rr.1.2.1.1) (v3 := .slice Br3 rr.1.2.1.2.length cr3) (v4 := .bool rr.1.2.2.1) (v5 := .slice Br5 rr.1.2.2.2.length cr5) RV1.out (fun _ hk => hk.2))
      have NV3 := Aside0.mk (put6_V (v0 := .bool rr.1.1.1) (v1 := .slice Br1 rr.1.1.2.length cr1) (v2 := .bool rr.1.2.1.1) (v3 := .slice Br3 rr.1.2.1.2.length cr3) (v4 := .bool rr.1.2.2.1) (v5 := .slice Br5 rr.1.2.2.2.length cr5) RV3.out (fun _ hk => hk.2))
      have NV5 := Aside0.mk (put6_V (v0 := .bool rr.1.1.1) (v1 := .slice Br1 rr.1.1.2.length cr1) (v2 := .bool rr.1.2.1.1) (v3 := .slice Br3 rr.1.2.1.2.length cr3) (v4 := .bool rr.1.2.2.1) (v5 := .slice Br5 rr.1.2.2.2.length cr5) RV5.out (fun _ hk => hk.2))
      have S8 := Aside0.mk (Nat.le_trans G11.out (Nat.le_of_lt (blk_lt B11.out)))
      clear EIc BK11 RV1 RV3 RV5 hs0 hs1 hs2 hs3 hs4 hs5 hf0 hf1 hf2 hf3 hf4 hf5
      change Code.wp _ _ _ _ (put6 w22 gb11 (.bool rr.1.1.1) (.slice Br1 rr.1.1.2.length cr1) (.bool rr.1.2.1.1) (.slice Br3 rr.1.2.1.2.length cr3) (.bool rr.1.2.2.1) (.slice Br5 rr.1.2.2.2.length cr5))
      generalize put6 w22 gb11 (.bool rr.1.1.1) (.slice Br1 rr.1.1.2.length cr1) (.bool rr.1.2.1.1) (.slice Br3 rr.1.2.1.2.length cr3) (.bool rr.1.2.2.1) (.slice Br5 rr.1.2.2.2.length cr5) = W8 at E8 B11 NV1 NV3 NV5 S8 ⊢
      obtain ⟨Ax, cx, hvp⟩ := Kd.R_slice E8.out.st.hp
      rw [hlen] at hvp
      subst hvp
      have hcx : p.length + 1 ≤ cx := by have := (Kd.R_reads' E8.out.st.hp).2.1; exact this
      have HWP := Aside0.mk (show wrap64 (p.length : Int) = (p.length : Int) from wrap_nat (by have := HNP.out; omega))
      have HCX := Aside0.mk (show (p.length : Int) ≤ (cx : Int) by omega)
      have EIc := Aside0.mk (E8.out.below (Nat.le_trans hbs E8.out.bel.size) (bD_ (Below.refl W8.heap.size W8)))
      have NB := Aside0.mk (blk_drew B11.out)
      have M1 := Aside0.mk (Kd.V_drew NV1.out)
      have M3 := Aside0.mk (Kd.V_drew NV3.out)
      have M5 := Aside0.mk (Kd.V_drew NV5.out)
      have S9 := Aside0.mk (show W6.heap.size ≤ W8.drew.heap.size from S8.out)
      clear E8 B11 NV1 NV3 NV5 S8
      refine start_ (n := 15) (S := fun w' => w'.cell? ⟨gm, 2, none⟩ = some (.slice Ax (p.length + 1) cx)) (ds := [14]) #[false, false, false, false, false, false, false, false, false, false, false, false, false, false, false] (by kernel_rfl) rfl rfl ((blk_cell EIc.out.st.blk 2).trans rfl) (fun hHeld => ?_); refine with_tabW me8_tab me8_bits (fun HT_ HW_ => ?_)
      generalize W8.drew = W9 at EIc NB M1 M3 M5 S9 hHeld ⊢
      refine pure_ (i := 0) (N := some 62) (v := ?_) (a' := ?_) #[true, false, false, false, false, false, false, false, false, false, false, false, false, false, false] rfl rfl (any_of HT_.out (by kernel_rfl)) (fun _ _ _ h => h) (Or.inl ⟨by rfl, ?_⟩) ?_ ?_
      rotate_left
      · intro w'
        go_simp
        with_reducible rfl
      rotate_left
      · simp only [Act.put, List.setIfInBounds_toArray, List.set_cons_zero, List.set_cons_succ, i64_w, i32_w]
        rfl
      refine pure_ (i := 1) (N := some 63) (v := ?_) (a' := ?_) #[true, true, false, false, false, false, false, false, false, false, false, false, false, false, false] rfl rfl (any_of HT_.out (by kernel_rfl)) (fun _ _ _ h => h) (Or.inl ⟨by rfl, ?_⟩) ?_ ?_
      rotate_left
      · intro w'
        go_simp
        with_reducible rfl
      rotate_left
      · simp only [Act.put, List.setIfInBounds_toArray, List.set_cons_zero, List.set_cons_succ, i64_w, i32_w]
        rfl
      refine pure_ (i := 2) (N := some 64) (v := ?_) (a' := ?_) #[true, true, true, false, false, false, false, false, false, false, false, false, false, false, false] rfl rfl (any_of HT_.out (by kernel_rfl)) (fun _ _ _ h => h) (Or.inl ⟨by rfl, ?_⟩) ?_ ?_
      rotate_left
      · intro w'
        go_simp
        with_reducible rfl
      rotate_left
      · simp only [Act.put, List.setIfInBounds_toArray, List.set_cons_zero, List.set_cons_succ, i64_w, i32_w]
        rfl
      refine pure_ (i := 3) (N := some 65) (v := ?_) (a' := ?_) #[true, true, true, true, false, false, false, false, false, false, false, false, false, false, false] rfl rfl (any_of HT_.out (by kernel_rfl)) (fun _ _ _ h => h) (Or.inl ⟨by rfl, ?_⟩) ?_ ?_
      rotate_left
      · intro w'
        go_simp
        with_reducible rfl
      rotate_left
      · simp only [Act.put, List.setIfInBounds_toArray, List.set_cons_zero, List.set_cons_succ, i64_w, i32_w]
        rfl
      refine take_ (i := 4) (N := some 66) (v := ?_) (a' := ?_) #[true, true, true, true, true, false, false, false, false, false, false, false, false, false, false] rfl rfl (take_ofW HT_.out HW_.out (by kernel_rfl)) (fun _ _ _ h => h) (Or.inl ⟨by rfl, ?_⟩) hHeld ?_ ?_
      rotate_left
      · intro w' s0
        go_simp
        with_reducible rfl
      rotate_left
      · simp only [Act.put, List.setIfInBounds_toArray, List.set_cons_zero, List.set_cons_succ, i64_w, i32_w]
        rfl
      refine pure_ (i := 5) (N := some 67) (v := ?_) (a' := ?_) #[true, true, true, true, true, true, false, false, false, false, false, false, false, false, false] rfl rfl (any_of HT_.out (by kernel_rfl)) (fun _ _ _ h => h) (Or.inl ⟨by rfl, ?_⟩) ?_ ?_
      rotate_left
      · intro w'
        go_simp
        with_reducible rfl
      rotate_left
      · simp only [Act.put, List.setIfInBounds_toArray, List.set_cons_zero, List.set_cons_succ, i64_w, i32_w]
        rfl
      refine pure_ (i := 6) (N := some 68) (v := ?_) (a' := ?_) #[true, true, true, true, true, true, true, false, false, false, false, false, false, false, false] rfl rfl (any_of HT_.out (by kernel_rfl)) (fun _ _ _ h => h) (Or.inl ⟨by rfl, ?_⟩) ?_ ?_
      rotate_left
      · intro w'
        go_simp
        with_reducible rfl
      rotate_left
      · simp only [Act.put, List.setIfInBounds_toArray, List.set_cons_zero, List.set_cons_succ, i64_w, i32_w]
        rfl
      refine pure_ (i := 7) (N := some 69) (v := ?_) (a' := ?_) #[true, true, true, true, true, true, true, true, false, false, false, false, false, false, false] rfl rfl (any_of HT_.out (by kernel_rfl)) (fun _ _ _ h => h) (Or.inl ⟨by rfl, ?_⟩) ?_ ?_
      rotate_left
      · intro w'
        go_simp
        with_reducible rfl
      rotate_left
      · simp only [Act.put, List.setIfInBounds_toArray, List.set_cons_zero, List.set_cons_succ, i64_w, i32_w]
        rfl
      refine take_ (i := 8) (N := some 70) (v := ?_) (a' := ?_) #[true, true, true, true, true, true, true, true, true, false, false, false, false, false, false] rfl rfl (take_ofW HT_.out HW_.out (by kernel_rfl)) (fun _ _ _ h => h) (Or.inl ⟨by rfl, ?_⟩) hHeld ?_ ?_
      rotate_left
      · intro w' s0
        go_simp
        with_reducible rfl
      rotate_left
      · simp only [Act.put, List.setIfInBounds_toArray, List.set_cons_zero, List.set_cons_succ, i64_w, i32_w]
        rfl
      refine pure_ (i := 9) (N := some 71) (v := ?_) (a' := ?_) #[true, true, true, true, true, true, true, true, true, true, false, false, false, false, false] rfl rfl (any_of HT_.out (by kernel_rfl)) (fun _ _ _ h => h) (Or.inl ⟨by rfl, ?_⟩) ?_ ?_
      rotate_left
      · intro w'
        go_simp
        with_reducible rfl
      rotate_left
      · simp only [Act.put, List.setIfInBounds_toArray, List.set_cons_zero, List.set_cons_succ, i64_w, i32_w]
        rfl
      refine pure_ (i := 10) (N := some 72) (v := ?_) (a' := ?_) #[true, true, true, true, true, true, true, true, true, true, true, false, false, false, false] rfl rfl (any_of HT_.out (by kernel_rfl)) (fun _ _ _ h => h) (Or.inl ⟨by rfl, ?_⟩) ?_ ?_
      rotate_left
      · intro w'
        go_simp
        with_reducible rfl
      rotate_left
      · simp only [Act.put, List.setIfInBounds_toArray, List.set_cons_zero, List.set_cons_succ, i64_w, i32_w]
        rfl
      refine pure_ (i := 11) (N := some 73) (v := ?_) (a' := ?_) #[true, true, true, true, true, true, true, true, true, true, true, true, false, false, false] rfl rfl (any_of HT_.out (by kernel_rfl)) (fun _ _ _ h => h) (Or.inl ⟨by rfl, ?_⟩) ?_ ?_
      rotate_left
      · intro w'
        go_simp
        rw [HWP.out, if_pos ⟨by omega, HCX.out⟩, Int.toNat_natCast]
      rotate_left
      · simp only [Act.put, List.setIfInBounds_toArray, List.set_cons_zero, List.set_cons_succ, i64_w, i32_w]
        rfl
      refine pure_ (i := 12) (N := some 74) (v := ?_) (a' := ?_) #[true, true, true, true, true, true, true, true, true, true, true, true, true, false, false] rfl rfl (any_of HT_.out (by kernel_rfl)) (fun _ _ _ h => h) (Or.inl ⟨by rfl, ?_⟩) ?_ ?_
      rotate_left
      · intro w'
        go_simp
        with_reducible rfl
      rotate_left
      · simp only [Act.put, List.setIfInBounds_toArray, List.set_cons_zero, List.set_cons_succ, i64_w, i32_w]
        rfl
      refine pure_ (i := 13) (N := some 75) (v := ?_) (a' := ?_) #[true, true, true, true, true, true, true, true, true, true, true, true, true, true, false] rfl rfl (any_of HT_.out (by kernel_rfl)) (fun _ _ _ h => h) (Or.inl ⟨by rfl, ?_⟩) ?_ ?_
      rotate_left
      · intro w'
        go_simp
        with_reducible rfl
      rotate_left
      · simp only [Act.put, List.setIfInBounds_toArray, List.set_cons_zero, List.set_cons_succ, i64_w, i32_w]
        rfl
      refine last_ (i := 14) (N := none) #[true, true, true, true, true, true, true, true, true, true, true, true, true, true, true] rfl rfl (one_of HT_.out (by kernel_rfl)) (by decide) (fun K hK => ?_)
      have hs52 : W9.cell? ⟨gm, 2, none⟩ = some (.slice Ax (p.length + 1) cx) := (blk_cell EIc.out.st.blk 2).trans rfl
      have hfs52 := blk_frozen EIc.out.st.blk 2
      refine skip_ (w1 := ?_) (by rfl) rfl ?_ ?_
      rotate_left
      · go_simp
        rfl
      refine hK.out _ _ ?_
      clear hK K
      refine done_ (done_of HT_.out (by kernel_rfl)) ?_
      go_wp2
      have hown : (Value.slice Ax p.length cx).ownBlock = (Value.slice Ax (p.length + 1) cx).ownBlock := by cases Ax <;> rfl
      have htk : (p ++ [n]).take p.length = p := by simp
      have EI9 := Aside0.mk (EInv.move EIc.out (Kept.setCell (p := ⟨gm, 2, none⟩) (Kept.refl W9 (MS gm vl2 (.slice Ax (p.length + 1) cx))) (.inl (.inl rfl)) (.slice Ax p.length cx)) (Below.setCell (Below.refl base W9) ST.out.hb (.slice Ax p.length cx)) (p2 := p) (cf := acc.2 ++ rr.2) (vl2 := vl2) (vp2 := .slice Ax p.length cx)
        ⟨blk_put (cs := #[.slice As s.length cs, vl2, .slice Ax (p.length + 1) cx]) EIc.out.st.blk 2 _ rfl, Kd.R_mono (Kd.R_far (p := ⟨gm, 2, none⟩) (Kd.R_types EIc.out.st.hl EIc.out.st.blk (by decide)) (fun _ hk => hk.2) _) (fun _ hk => by rw [hown]; exact hk.1), Kd.R_mono (Kd.R_far (p := ⟨gm, 2, none⟩) (Kd.R_types (by have := Kd.R_take (m := p.length) EIc.out.st.hp (by simp); rwa [htk] at this) EIc.out.st.blk (by decide)) (fun _ hk => hk.2) _) (fun _ _ => trivial), ST.out.hb⟩ (.inl rfl) (.inl hown))
      have hgmne : gb11 ≠ gm := blk_ne NB.out EIc.out.st.blk (by decide)
      have NBa := Aside0.mk (blk_far NB.out (p := ⟨gm, 2, none⟩) hgmne (.slice Ax p.length cx))
      have MSE := Aside0.mk (fun k (h : MS gm vl2 (.slice Ax p.length cx) k) => show MS gm vl2 (.slice Ax (p.length + 1) cx) k from h.imp_right (fun h => h.imp_right (fun e => e.trans hown)))
      have M1a := Aside0.mk (Kd.V_mono (ok' := fun k => (Q k ∨ W6.heap.size ≤ k) ∧ ¬ MS gm vl2 (.slice Ax p.length cx) k) (Kd.V_far (p := ⟨gm, 2, none⟩) M1.out (fun k hk e => hk.1.2 (.inl e)) (.slice Ax p.length cx)) (fun k hk => ⟨hk.1.1, fun hm => hk.1.2 (MSE.out k hm)⟩))
      have M3a := Aside0.mk (Kd.V_mono (ok' := fun k => (Q k ∨ W6.heap.size ≤ k) ∧ ¬ MS gm vl2 (.slice Ax p.length cx) k) (Kd.V_far (p := ⟨gm, 2, none⟩) M3.out (fun k hk e => hk.1.2 (.inl e)) (.slice Ax p.length cx)) (fun k hk => ⟨hk.1.1, fun hm => hk.1.2 (MSE.out k hm)⟩))
      have M5a := Aside0.mk (Kd.V_mono (ok' := fun k => (Q k ∨ W6.heap.size ≤ k) ∧ ¬ MS gm vl2 (.slice Ax p.length cx) k) (Kd.V_far (p := ⟨gm, 2, none⟩) M5.out (fun k hk e => hk.1.2 (.inl e)) (.slice Ax p.length cx)) (fun k hk => ⟨hk.1.1, fun hm => hk.1.2 (MSE.out k hm)⟩))
      have E10 := Aside0.mk (EI9.out.lessX (X' := fun k => k = gb6 ∨ k = gb7) (fun k hk => .inl hk))
      have S10 := Aside0.mk (show W6.heap.size ≤ (W9.setCell ⟨gm, 2, none⟩ (.slice Ax p.length cx)).heap.size from by simp [World.setCell]; exact S9.out)
      clear EIc NB M1 M3 M5 S9 EI9 MSE hs52 hfs52
      generalize W9.setCell ⟨gm, 2, none⟩ (.slice Ax p.length cx) = W10 at E10 NBa M1a M3a M5a S10 ⊢
      have HG0 : ∀ {u : Value}, (∀ q, u.ownBlock = some q → w.heap.size ≤ q ∧ q < W6.heap.size) → ∀ k, (Q k ∨ W6.heap.size ≤ k) → some k ≠ u.ownBlock := fun hu k hk e => by
        obtain ⟨h1, h2⟩ := hu k e.symm
        rcases hk with hk | hk
        · have := (HQ.out k hk).1
          omega
        · omega
      have HGuO := Aside0.mk (fun k (hk : ((Q k ∨ W6.heap.size ≤ k) ∧ ¬ MS gm vl2 (.slice Ax p.length cx) k) ∧ k < W10.heap.size) => HG0 (u := uO) (fun q hq => ⟨Kd.N_base EI6.out.no q hq, Kd.N_lt EI6.out.no q hq⟩) k hk.1.1)
      have HGuA := Aside0.mk (fun k (hk : ((Q k ∨ W6.heap.size ≤ k) ∧ ¬ MS gm vl2 (.slice Ax p.length cx) k) ∧ k < W10.heap.size) => HG0 (u := uA) (fun q hq => ⟨Kd.N_base EI6.out.na q hq, Kd.N_lt EI6.out.na q hq⟩) k hk.1.1)
      have HGuB := Aside0.mk (fun k (hk : ((Q k ∨ W6.heap.size ≤ k) ∧ ¬ MS gm vl2 (.slice Ax p.length cx) k) ∧ k < W10.heap.size) => HG0 (u := uB) (fun q hq => ⟨Kd.N_base EI6.out.nb q hq, Kd.N_lt EI6.out.nb q hq⟩) k hk.1.1)
      have EIc := Aside0.mk (E10.out.below (Nat.le_trans hbs E10.out.bel.size) (bD_ (Below.refl W10.heap.size W10)))
      have BK11 := Aside0.mk (blk_drew NBa.out)
      have M1 := Aside0.mk (V_base (b' := 0) (Kd.V_drew (Kd.V_bound M1a.out)))
      have M3 := Aside0.mk (V_base (b' := 0) (Kd.V_drew (Kd.V_bound M3a.out)))
      have M5 := Aside0.mk (V_base (b' := 0) (Kd.V_drew (Kd.V_bound M5a.out)))
      have SZC := Aside0.mk (show W10.heap.size ≤ W10.drew.heap.size from Nat.le_refl _)
      have HX6 := Aside0.mk (fun k (hk : ((Q k ∨ W6.heap.size ≤ k) ∧ ¬ MS gm vl2 (.slice Ax p.length cx) k) ∧ k < W10.heap.size) => show ¬ (k = gb6 ∨ k = gb7) from fun e => by
        have h1 := G_gb6.out
        have h2 := G_gb7.out
        have h3 := blk_lt EI6.out.b6
        have h4 := blk_lt EI6.out.b7
        rcases hk.1.1 with hk | hk
        · have := (HQ.out k hk).1
          omega
        · omega)
      clear E10 NBa M1a M3a M5a
      refine start_ (n := 20) (S := fun w' => w'.cell? ⟨gb7, 0, none⟩ = some uO ∧ w'.cell? ⟨gb7, 1, none⟩ = some uA ∧ w'.cell? ⟨gb7, 2, none⟩ = some uB ∧ w'.cell? ⟨gb11, 0, none⟩ = some (.bool rr.1.1.1) ∧ w'.cell? ⟨gb11, 1, none⟩ = some (.slice Br1 rr.1.1.2.length cr1) ∧ w'.cell? ⟨gb11, 2, none⟩ = some (.bool rr.1.2.1.1) ∧ w'.cell? ⟨gb11, 3, none⟩ = some (.slice Br3 rr.1.2.1.2.length cr3) ∧ w'.cell? ⟨gb11, 4, none⟩ = some (.bool rr.1.2.2.1) ∧ w'.cell? ⟨gb11, 5, none⟩ = some (.slice Br5 rr.1.2.2.2.length cr5)) (ds := [19]) #[false, false, false, false, false, false, false, false, false, false, false, false, false, false, false, false, false, false, false, false] (by kernel_rfl) rfl rfl ⟨(blk_cell EIc.out.b7 0).trans rfl, (blk_cell EIc.out.b7 1).trans rfl, (blk_cell EIc.out.b7 2).trans rfl, (blk_cell BK11.out 0).trans rfl, (blk_cell BK11.out 1).trans rfl, (blk_cell BK11.out 2).trans rfl, (blk_cell BK11.out 3).trans rfl, (blk_cell BK11.out 4).trans rfl, (blk_cell BK11.out 5).trans rfl⟩ (fun hHeld => ?_); refine with_tabW me9_tab me9_bits (fun HT_ HW_ => ?_)
      generalize W10.drew = W11 at EIc BK11 M1 M3 M5 SZC hHeld ⊢
      have hfl := fold_lens (mergeM s k) s d p o a b (ns.take i) (([], [], []), [])
      rw [← AC.out, List.length_take, Nat.min_eq_left (by omega)] at hfl
      simp only [List.length_nil, Nat.zero_add] at hfl
      have HLN0 := Aside0.mk (show acc.1.1.length ≤ 1000000000 by omega)
      have HLN1 := Aside0.mk (show acc.1.2.1.length ≤ 1000000000 by omega)
      have HLN2 := Aside0.mk (show acc.1.2.2.length ≤ 1000000000 by omega)
      clear hfl
      refine pure_ (i := 0) (N := some 76) (v := ?_) (a' := ?_) #[true, false, false, false, false, false, false, false, false, false, false, false, false, false, false, false, false, false, false, false] rfl rfl (any_of HT_.out (by kernel_rfl)) (fun _ _ _ h => h) (Or.inl ⟨by rfl, ?_⟩) ?_ ?_
      rotate_left
      · intro w'
        go_simp
        with_reducible rfl
      rotate_left
      · simp only [Act.put, List.setIfInBounds_toArray, List.set_cons_zero, List.set_cons_succ, i64_w, i32_w]
        rfl
      refine take_ (i := 1) (N := some 77) (v := ?_) (a' := ?_) #[true, true, false, false, false, false, false, false, false, false, false, false, false, false, false, false, false, false, false, false] rfl rfl (take_ofW HT_.out HW_.out (by kernel_rfl)) (fun _ _ _ h => h) (Or.inl ⟨by rfl, ?_⟩) hHeld ?_ ?_
      rotate_left
      · rintro w' ⟨s0, s1, s2, s3, s4, s5, s6, s7, s8⟩
        go_simp
        with_reducible rfl
      rotate_left
      · simp only [Act.put, List.setIfInBounds_toArray, List.set_cons_zero, List.set_cons_succ, i64_w, i32_w]
        rfl
      refine pure_ (i := 2) (N := some 78) (v := ?_) (a' := ?_) #[true, true, true, false, false, false, false, false, false, false, false, false, false, false, false, false, false, false, false, false] rfl rfl (any_of HT_.out (by kernel_rfl)) (fun _ _ _ h => h) (Or.inl ⟨by rfl, ?_⟩) ?_ ?_
      rotate_left
      · intro w'
        go_simp
        with_reducible rfl
      rotate_left
      · simp only [Act.put, List.setIfInBounds_toArray, List.set_cons_zero, List.set_cons_succ, i64_w, i32_w]
        rfl
      refine pure_ (i := 3) (N := some 79) (v := ?_) (a' := ?_) #[true, true, true, true, false, false, false, false, false, false, false, false, false, false, false, false, false, false, false, false] rfl rfl (any_of HT_.out (by kernel_rfl)) (fun _ _ _ h => h) (Or.inl ⟨by rfl, ?_⟩) ?_ ?_
      rotate_left
      · intro w'
        go_simp
        with_reducible rfl
      rotate_left
      · simp only [Act.put, List.setIfInBounds_toArray, List.set_cons_zero, List.set_cons_succ, i64_w, i32_w]
        rfl
      refine take_ (i := 4) (N := some 80) (v := ?_) (a' := ?_) #[true, true, true, true, true, false, false, false, false, false, false, false, false, false, false, false, false, false, false, false] rfl rfl (take_ofW HT_.out HW_.out (by kernel_rfl)) (fun _ _ _ h => h) (Or.inl ⟨by rfl, ?_⟩) hHeld ?_ ?_
      rotate_left
      · rintro w' ⟨s0, s1, s2, s3, s4, s5, s6, s7, s8⟩
        go_simp
        with_reducible rfl
      rotate_left
      · simp only [Act.put, List.setIfInBounds_toArray, List.set_cons_zero, List.set_cons_succ, i64_w, i32_w]
        rfl
      refine pure_ (i := 6) (N := some 82) (v := ?_) (a' := ?_) #[true, true, true, true, true, false, true, false, false, false, false, false, false, false, false, false, false, false, false, false] rfl rfl (any_of HT_.out (by kernel_rfl)) (fun _ _ _ h => h) (Or.inl ⟨by rfl, ?_⟩) ?_ ?_
      rotate_left
      · intro w'
        go_simp
        with_reducible rfl
      rotate_left
      · simp only [Act.put, List.setIfInBounds_toArray, List.set_cons_zero, List.set_cons_succ, i64_w, i32_w]
        rfl
      refine take_ (i := 7) (N := some 83) (v := ?_) (a' := ?_) #[true, true, true, true, true, false, true, true, false, false, false, false, false, false, false, false, false, false, false, false] rfl rfl (take_ofW HT_.out HW_.out (by kernel_rfl)) (fun _ _ _ h => h) (Or.inl ⟨by rfl, ?_⟩) hHeld ?_ ?_
      rotate_left
      · rintro w' ⟨s0, s1, s2, s3, s4, s5, s6, s7, s8⟩
        go_simp
        with_reducible rfl
      rotate_left
      · simp only [Act.put, List.setIfInBounds_toArray, List.set_cons_zero, List.set_cons_succ, i64_w, i32_w]
        rfl
      refine pure_ (i := 8) (N := some 84) (v := ?_) (a' := ?_) #[true, true, true, true, true, false, true, true, true, false, false, false, false, false, false, false, false, false, false, false] rfl rfl (any_of HT_.out (by kernel_rfl)) (fun _ _ _ h => h) (Or.inl ⟨by rfl, ?_⟩) ?_ ?_
      rotate_left
      · intro w'
        go_simp
        with_reducible rfl
      rotate_left
      · simp only [Act.put, List.setIfInBounds_toArray, List.set_cons_zero, List.set_cons_succ, i64_w, i32_w]
        rfl
      refine pure_ (i := 9) (N := some 85) (v := ?_) (a' := ?_) #[true, true, true, true, true, false, true, true, true, true, false, false, false, false, false, false, false, false, false, false] rfl rfl (any_of HT_.out (by kernel_rfl)) (fun _ _ _ h => h) (Or.inl ⟨by rfl, ?_⟩) ?_ ?_
      rotate_left
      · intro w'
        go_simp
        with_reducible rfl
      rotate_left
      · simp only [Act.put, List.setIfInBounds_toArray, List.set_cons_zero, List.set_cons_succ, i64_w, i32_w]
        rfl
      refine take_ (i := 10) (N := some 86) (v := ?_) (a' := ?_) #[true, true, true, true, true, false, true, true, true, true, true, false, false, false, false, false, false, false, false, false] rfl rfl (take_ofW HT_.out HW_.out (by kernel_rfl)) (fun _ _ _ h => h) (Or.inl ⟨by rfl, ?_⟩) hHeld ?_ ?_
      rotate_left
      · rintro w' ⟨s0, s1, s2, s3, s4, s5, s6, s7, s8⟩
        go_simp
        with_reducible rfl
      rotate_left
      · simp only [Act.put, List.setIfInBounds_toArray, List.set_cons_zero, List.set_cons_succ, i64_w, i32_w]
        rfl
      refine pure_ (i := 12) (N := some 88) (v := ?_) (a' := ?_) #[true, true, true, true, true, false, true, true, true, true, true, false, true, false, false, false, false, false, false, false] rfl rfl (any_of HT_.out (by kernel_rfl)) (fun _ _ _ h => h) (Or.inl ⟨by rfl, ?_⟩) ?_ ?_
      rotate_left
      · intro w'
        go_simp
        with_reducible rfl
      rotate_left
      · simp only [Act.put, List.setIfInBounds_toArray, List.set_cons_zero, List.set_cons_succ, i64_w, i32_w]
        rfl
      refine take_ (i := 13) (N := some 89) (v := ?_) (a' := ?_) #[true, true, true, true, true, false, true, true, true, true, true, false, true, true, false, false, false, false, false, false] rfl rfl (take_ofW HT_.out HW_.out (by kernel_rfl)) (fun _ _ _ h => h) (Or.inl ⟨by rfl, ?_⟩) hHeld ?_ ?_
      rotate_left
      · rintro w' ⟨s0, s1, s2, s3, s4, s5, s6, s7, s8⟩
        go_simp
        with_reducible rfl
      rotate_left
      · simp only [Act.put, List.setIfInBounds_toArray, List.set_cons_zero, List.set_cons_succ, i64_w, i32_w]
        rfl
      refine pure_ (i := 14) (N := some 90) (v := ?_) (a' := ?_) #[true, true, true, true, true, false, true, true, true, true, true, false, true, true, true, false, false, false, false, false] rfl rfl (any_of HT_.out (by kernel_rfl)) (fun _ _ _ h => h) (Or.inl ⟨by rfl, ?_⟩) ?_ ?_
      rotate_left
      · intro w'
        go_simp
        with_reducible rfl
      rotate_left
      · simp only [Act.put, List.setIfInBounds_toArray, List.set_cons_zero, List.set_cons_succ, i64_w, i32_w]
        rfl
      refine pure_ (i := 15) (N := some 91) (v := ?_) (a' := ?_) #[true, true, true, true, true, false, true, true, true, true, true, false, true, true, true, true, false, false, false, false] rfl rfl (any_of HT_.out (by kernel_rfl)) (fun _ _ _ h => h) (Or.inl ⟨by rfl, ?_⟩) ?_ ?_
      rotate_left
      · intro w'
        go_simp
        with_reducible rfl
      rotate_left
      · simp only [Act.put, List.setIfInBounds_toArray, List.set_cons_zero, List.set_cons_succ, i64_w, i32_w]
        rfl
      refine take_ (i := 16) (N := some 92) (v := ?_) (a' := ?_) #[true, true, true, true, true, false, true, true, true, true, true, false, true, true, true, true, true, false, false, false] rfl rfl (take_ofW HT_.out HW_.out (by kernel_rfl)) (fun _ _ _ h => h) (Or.inl ⟨by rfl, ?_⟩) hHeld ?_ ?_
      rotate_left
      · rintro w' ⟨s0, s1, s2, s3, s4, s5, s6, s7, s8⟩
        go_simp
        with_reducible rfl
      rotate_left
      · simp only [Act.put, List.setIfInBounds_toArray, List.set_cons_zero, List.set_cons_succ, i64_w, i32_w]
        rfl
      refine one_ (i := 5) (N := some 81) #[true, true, true, true, true, true, true, true, true, true, true, false, true, true, true, true, true, false, false, false] rfl rfl (one_of HT_.out (by kernel_rfl)) (by decide) (fun K hK => ?_)
      refine goes_ Try.func39 (by kernel_rfl) rfl #[uO, .string n, .agg #[.bool rr.1.1.1, .slice Br1 rr.1.1.2.length cr1]] (by rfl) rfl rfl (by (try simp only [List.map_toArray, List.map_cons, List.map_nil]); first | done | rfl) ?_
      refine (with_calls w.heap.size _ (fun k => ((Q k ∨ W6.heap.size ≤ k) ∧ ¬ MS gm vl2 (.slice Ax p.length cx) k) ∧ k < W10.heap.size) uO acc.1.1 n rr.1.1.1 Br1 cr1 rr.1.1.2 _ EIc.out.no (Kd.V_F M1.out) (Kd.V_reads' M1.out).2.1 ?hox ?hfr (Nat.le_trans SZ6.out (Nat.le_trans S10.out SZC.out)) ?hl).mono ?_
      case hox => exact fun k hk => ⟨⟨⟨hk.1.1.imp_right (fun h => Nat.le_trans SZ6.out h), hk.1.2, HX6.out k hk⟩, HGuA.out k hk, HGuB.out k hk⟩, HGuO.out k hk⟩
      case hfr =>
        intro k hk
        have h1 := blk_lt EIc.out.b6
        have h2 := blk_lt EIc.out.b7
        have h3 := Nat.le_trans SZ6.out (Nat.le_trans S10.out SZC.out)
        exact ⟨⟨.inr (by omega), fun hm => by have := EIc.out.st.ms_lt hm; omega, fun e => by omega⟩, fun e => by have := Kd.N_lt EIc.out.na k e.symm; omega, fun e => by have := Kd.N_lt EIc.out.nb k e.symm; omega⟩
      case hl => exact HLN0.out
      rintro e w5 ⟨v5, rfl, hN, hbb, hkk, hgr⟩
      refine ⟨_, rfl, ?_⟩
      obtain ⟨Aw5, cw5, rfl⟩ := Kd.N_slice hN
      have NE := Aside0.mk (EIc.out.putO hkk hbb hbs hN hgr)
      have N11 := Aside0.mk (blk_kept BK11.out hkk (Kd.N_ne EIc.out.no BK11.out (by decide)))
      have NHG := Aside0.mk (fun k (hk : ((Q k ∨ W6.heap.size ≤ k) ∧ ¬ MS gm vl2 (.slice Ax p.length cx) k) ∧ k < W10.heap.size) => show some k ≠ (Value.slice Aw5 (withE acc.1.1 n rr.1.1.1 rr.1.1.2).length cw5).ownBlock from fun e => by
        rcases hgr with g | ⟨q, g, hq⟩
        · exact HGuO.out k hk (e.trans g)
        · rw [g] at e
          injection e with e
          have h1 := hk.2
          have h2 := SZC.out
          omega)
      have NM1 := Aside0.mk (Kd.V_kept M1.out hkk (fun k hk e => HGuO.out k hk e))
      clear M1
      have M1 := NM1
      clear NM1
      have NM3 := Aside0.mk (Kd.V_kept M3.out hkk (fun k hk e => HGuO.out k hk e))
      clear M3
      have M3 := NM3
      clear NM3
      have NM5 := Aside0.mk (Kd.V_kept M5.out hkk (fun k hk e => HGuO.out k hk e))
      clear M5
      have M5 := NM5
      clear NM5
      have NS := Aside0.mk (Nat.le_trans SZC.out hkk.1)
      clear EIc BK11 SZC HGuO hN hbb hkk hgr
      have EIc := NE
      have BK11 := N11
      have SZC := NS
      have HGuO := NHG
      clear NE N11 NS NHG
      refine hK.out _ _ ⟨(blk_cell EIc.out.b7 0).trans rfl, (blk_cell EIc.out.b7 1).trans rfl, (blk_cell EIc.out.b7 2).trans rfl, (blk_cell BK11.out 0).trans rfl, (blk_cell BK11.out 1).trans rfl, (blk_cell BK11.out 2).trans rfl, (blk_cell BK11.out 3).trans rfl, (blk_cell BK11.out 4).trans rfl, (blk_cell BK11.out 5).trans rfl⟩ (fun hHeld => ?_)
      clear hK K
      refine norm_ (a' := ?_) ?_ ?_
      rotate_left
      · show Act.put _ (some 81) _ = _
        simp only [Act.put, List.setIfInBounds_toArray, List.set_cons_zero, List.set_cons_succ, i64_w, i32_w]
        rfl
      refine one_ (i := 11) (N := some 87) #[true, true, true, true, true, true, true, true, true, true, true, true, true, true, true, true, true, false, false, false] rfl rfl (one_of HT_.out (by kernel_rfl)) (by decide) (fun K hK => ?_)
      refine goes_ Try.func39 (by kernel_rfl) rfl #[uA, .string n, .agg #[.bool rr.1.2.1.1, .slice Br3 rr.1.2.1.2.length cr3]] (by rfl) rfl rfl (by (try simp only [List.map_toArray, List.map_cons, List.map_nil]); first | done | rfl) ?_
      refine (with_calls w.heap.size _ (fun k => ((Q k ∨ W6.heap.size ≤ k) ∧ ¬ MS gm vl2 (.slice Ax p.length cx) k) ∧ k < W10.heap.size) uA acc.1.2.1 n rr.1.2.1.1 Br3 cr3 rr.1.2.1.2 _ EIc.out.na (Kd.V_F M3.out) (Kd.V_reads' M3.out).2.1 ?hox ?hfr (Nat.le_trans SZ6.out (Nat.le_trans S10.out SZC.out)) ?hl).mono ?_
      case hox => exact fun k hk => ⟨⟨⟨hk.1.1.imp_right (fun h => Nat.le_trans SZ6.out h), hk.1.2, HX6.out k hk⟩, HGuO.out k hk, HGuB.out k hk⟩, HGuA.out k hk⟩
      case hfr =>
        intro k hk
        have h1 := blk_lt EIc.out.b6
        have h2 := blk_lt EIc.out.b7
        have h3 := Nat.le_trans SZ6.out (Nat.le_trans S10.out SZC.out)
        exact ⟨⟨.inr (by omega), fun hm => by have := EIc.out.st.ms_lt hm; omega, fun e => by omega⟩, fun e => by have := Kd.N_lt EIc.out.no k e.symm; omega, fun e => by have := Kd.N_lt EIc.out.nb k e.symm; omega⟩
      case hl => exact HLN1.out
      rintro e w11 ⟨v11, rfl, hN, hbb, hkk, hgr⟩
      refine ⟨_, rfl, ?_⟩
      obtain ⟨Aw11, cw11, rfl⟩ := Kd.N_slice hN
      have NE := Aside0.mk (EIc.out.putA hkk hbb hbs hN hgr)
      have N11 := Aside0.mk (blk_kept BK11.out hkk (Kd.N_ne EIc.out.na BK11.out (by decide)))
      have NHG := Aside0.mk (fun k (hk : ((Q k ∨ W6.heap.size ≤ k) ∧ ¬ MS gm vl2 (.slice Ax p.length cx) k) ∧ k < W10.heap.size) => show some k ≠ (Value.slice Aw11 (withE acc.1.2.1 n rr.1.2.1.1 rr.1.2.1.2).length cw11).ownBlock from fun e => by
        rcases hgr with g | ⟨q, g, hq⟩
        · exact HGuA.out k hk (e.trans g)
        · rw [g] at e
          injection e with e
          have h1 := hk.2
          have h2 := SZC.out
          omega)
      have NM1 := Aside0.mk (Kd.V_kept M1.out hkk (fun k hk e => HGuA.out k hk e))
      clear M1
      have M1 := NM1
      clear NM1
      have NM3 := Aside0.mk (Kd.V_kept M3.out hkk (fun k hk e => HGuA.out k hk e))
      clear M3
      have M3 := NM3
      clear NM3
      have NM5 := Aside0.mk (Kd.V_kept M5.out hkk (fun k hk e => HGuA.out k hk e))
      clear M5
      have M5 := NM5
      clear NM5
      have NS := Aside0.mk (Nat.le_trans SZC.out hkk.1)
      clear EIc BK11 SZC HGuA hN hbb hkk hgr
      have EIc := NE
      have BK11 := N11
      have SZC := NS
      have HGuA := NHG
      clear NE N11 NS NHG
      refine hK.out _ _ ⟨(blk_cell EIc.out.b7 0).trans rfl, (blk_cell EIc.out.b7 1).trans rfl, (blk_cell EIc.out.b7 2).trans rfl, (blk_cell BK11.out 0).trans rfl, (blk_cell BK11.out 1).trans rfl, (blk_cell BK11.out 2).trans rfl, (blk_cell BK11.out 3).trans rfl, (blk_cell BK11.out 4).trans rfl, (blk_cell BK11.out 5).trans rfl⟩ (fun hHeld => ?_)
      clear hK K
      refine norm_ (a' := ?_) ?_ ?_
      rotate_left
      · show Act.put _ (some 87) _ = _
        simp only [Act.put, List.setIfInBounds_toArray, List.set_cons_zero, List.set_cons_succ, i64_w, i32_w]
        rfl
      refine one_ (i := 17) (N := some 93) #[true, true, true, true, true, true, true, true, true, true, true, true, true, true, true, true, true, true, false, false] rfl rfl (one_of HT_.out (by kernel_rfl)) (by decide) (fun K hK => ?_)
      refine goes_ Try.func39 (by kernel_rfl) rfl #[uB, .string n, .agg #[.bool rr.1.2.2.1, .slice Br5 rr.1.2.2.2.length cr5]] (by rfl) rfl rfl (by (try simp only [List.map_toArray, List.map_cons, List.map_nil]); first | done | rfl) ?_
      refine (with_calls w.heap.size _ (fun k => ((Q k ∨ W6.heap.size ≤ k) ∧ ¬ MS gm vl2 (.slice Ax p.length cx) k) ∧ k < W10.heap.size) uB acc.1.2.2 n rr.1.2.2.1 Br5 cr5 rr.1.2.2.2 _ EIc.out.nb (Kd.V_F M5.out) (Kd.V_reads' M5.out).2.1 ?hox ?hfr (Nat.le_trans SZ6.out (Nat.le_trans S10.out SZC.out)) ?hl).mono ?_
      case hox => exact fun k hk => ⟨⟨⟨hk.1.1.imp_right (fun h => Nat.le_trans SZ6.out h), hk.1.2, HX6.out k hk⟩, HGuO.out k hk, HGuA.out k hk⟩, HGuB.out k hk⟩
      case hfr =>
        intro k hk
        have h1 := blk_lt EIc.out.b6
        have h2 := blk_lt EIc.out.b7
        have h3 := Nat.le_trans SZ6.out (Nat.le_trans S10.out SZC.out)
        exact ⟨⟨.inr (by omega), fun hm => by have := EIc.out.st.ms_lt hm; omega, fun e => by omega⟩, fun e => by have := Kd.N_lt EIc.out.no k e.symm; omega, fun e => by have := Kd.N_lt EIc.out.na k e.symm; omega⟩
      case hl => exact HLN2.out
      rintro e w17 ⟨v17, rfl, hN, hbb, hkk, hgr⟩
      refine ⟨_, rfl, ?_⟩
      obtain ⟨Aw17, cw17, rfl⟩ := Kd.N_slice hN
      have NE := Aside0.mk (EIc.out.putB hkk hbb hbs hN hgr)
      have N11 := Aside0.mk (blk_kept BK11.out hkk (Kd.N_ne EIc.out.nb BK11.out (by decide)))
      have NHG := Aside0.mk (fun k (hk : ((Q k ∨ W6.heap.size ≤ k) ∧ ¬ MS gm vl2 (.slice Ax p.length cx) k) ∧ k < W10.heap.size) => show some k ≠ (Value.slice Aw17 (withE acc.1.2.2 n rr.1.2.2.1 rr.1.2.2.2).length cw17).ownBlock from fun e => by
        rcases hgr with g | ⟨q, g, hq⟩
        · exact HGuB.out k hk (e.trans g)
        · rw [g] at e
          injection e with e
          have h1 := hk.2
          have h2 := SZC.out
          omega)
      have NM1 := Aside0.mk (Kd.V_kept M1.out hkk (fun k hk e => HGuB.out k hk e))
      clear M1
      have M1 := NM1
      clear NM1
      have NM3 := Aside0.mk (Kd.V_kept M3.out hkk (fun k hk e => HGuB.out k hk e))
      clear M3
      have M3 := NM3
      clear NM3
      have NM5 := Aside0.mk (Kd.V_kept M5.out hkk (fun k hk e => HGuB.out k hk e))
      clear M5
      have M5 := NM5
      clear NM5
      have NS := Aside0.mk (Nat.le_trans SZC.out hkk.1)
      clear EIc BK11 SZC HGuB hN hbb hkk hgr
      have EIc := NE
      have BK11 := N11
      have SZC := NS
      have HGuB := NHG
      clear NE N11 NS NHG
      refine hK.out _ _ ⟨(blk_cell EIc.out.b7 0).trans rfl, (blk_cell EIc.out.b7 1).trans rfl, (blk_cell EIc.out.b7 2).trans rfl, (blk_cell BK11.out 0).trans rfl, (blk_cell BK11.out 1).trans rfl, (blk_cell BK11.out 2).trans rfl, (blk_cell BK11.out 3).trans rfl, (blk_cell BK11.out 4).trans rfl, (blk_cell BK11.out 5).trans rfl⟩ (fun hHeld => ?_)
      clear hK K
      refine norm_ (a' := ?_) ?_ ?_
      rotate_left
      · show Act.put _ (some 93) _ = _
        simp only [Act.put, List.setIfInBounds_toArray, List.set_cons_zero, List.set_cons_succ, i64_w, i32_w]
        rfl
      refine pure_ (i := 18) (N := some 94) (v := ?_) (a' := ?_) #[true, true, true, true, true, true, true, true, true, true, true, true, true, true, true, true, true, true, true, false] rfl rfl (any_of HT_.out (by kernel_rfl)) (fun _ _ _ h => h) (Or.inl ⟨by rfl, ?_⟩) ?_ ?_
      rotate_left
      · intro w'
        go_simp
        with_reducible rfl
      rotate_left
      · simp only [Act.put, List.setIfInBounds_toArray, List.set_cons_zero, List.set_cons_succ, i64_w, i32_w]
        rfl
      refine last_ (i := 19) (N := none) #[true, true, true, true, true, true, true, true, true, true, true, true, true, true, true, true, true, true, true, true] rfl rfl (one_of HT_.out (by kernel_rfl)) (by decide) (fun K hK => ?_)
      have hs0 : w17.cell? ⟨gb7, 0, none⟩ = some uO := (blk_cell EIc.out.b7 0).trans rfl
      have hf0 := blk_frozen EIc.out.b7 0
      have hs1 : w17.cell? ⟨gb7, 1, none⟩ = some uA := (blk_cell EIc.out.b7 1).trans rfl
      have hf1 := blk_frozen EIc.out.b7 1
      have hs2 : w17.cell? ⟨gb7, 2, none⟩ = some uB := (blk_cell EIc.out.b7 2).trans rfl
      have hf2 := blk_frozen EIc.out.b7 2
      refine skip_ (w1 := ?_) (by rfl) rfl ?_ ?_
      rotate_left
      · go_simp
        rfl
      refine hK.out _ _ ?_
      clear hK K
      refine done_ (done_of HT_.out (by kernel_rfl)) ?_
      try go_wp2
      have E12 := Aside0.mk (EInv.store7 EIc.out G_gb7.out hbs (.inr rfl))
      have HACC := Aside0.mk (show ((withE acc.1.1 n rr.1.1.1 rr.1.1.2, withE acc.1.2.1 n rr.1.2.1.1 rr.1.2.1.2, withE acc.1.2.2 n rr.1.2.2.1 rr.1.2.2.2), acc.2 ++ rr.2) = (ns.take (i + 1)).foldl (stepM (mergeM s k) s d p o a b) (([], [], []), []) by
        rw [List.take_add_one, List.getElem?_eq_getElem hlt, ← HNI.out]
        simp only [Option.toList_some, List.foldl_append, List.foldl_cons, List.foldl_nil]
        rw [← AC.out]
        show _ = ((withE acc.1.1 n _ _, withE acc.1.2.1 n _ _, withE acc.1.2.2 n _ _), acc.2 ++ _)
        rw [← HRR.out])
      clear EIc
      go_roundg (ns.length - (i + 1))
      case measure => omega
      case rel => exact ⟨i + 1, by omega, by omega, by go_num, _, _, _, _, _, _, E12, HACC⟩
    · have hltz : ¬ (i : Int) < (ns.length : Int) := by omega
      have : i = ns.length := by omega
      subst this
      have EF := Aside0.mk (show edgesM (mergeM s k) s d p o a b = acc by rw [AC.out, List.take_length, Hns.out]; rfl)
      obtain ⟨A1, c1, rfl⟩ := Kd.N_slice EI.out.no
      obtain ⟨A3, c3, rfl⟩ := Kd.N_slice EI.out.na
      obtain ⟨A5, c5, rfl⟩ := Kd.N_slice EI.out.nb
      have y0 : wr.cell? ⟨gb7, 0, none⟩ = some (.slice A1 acc.1.1.length c1) := (blk_cell EI.out.b7 0).trans rfl
      have y1 : wr.cell? ⟨gb7, 1, none⟩ = some (.slice A3 acc.1.2.1.length c3) := (blk_cell EI.out.b7 1).trans rfl
      have y2 : wr.cell? ⟨gb7, 2, none⟩ = some (.slice A5 acc.1.2.2.length c5) := (blk_cell EI.out.b7 2).trans rfl
      have hs0 : wr.cell? ⟨gb6, 0, none⟩ = some (.bool false) := (blk_cell EI.out.b6 0).trans rfl
      have hf0 := blk_frozen EI.out.b6 0
      have hs1 : wr.cell? ⟨gb6, 1, none⟩ = some (.slice none 0 0) := (blk_cell EI.out.b6 1).trans rfl
      have hf1 := blk_frozen EI.out.b6 1
      have hs2 : wr.cell? ⟨gb6, 2, none⟩ = some (.bool false) := (blk_cell EI.out.b6 2).trans rfl
      have hf2 := blk_frozen EI.out.b6 2
      have hs3 : wr.cell? ⟨gb6, 3, none⟩ = some (.slice none 0 0) := (blk_cell EI.out.b6 3).trans rfl
      have hf3 := blk_frozen EI.out.b6 3
      have hs4 : wr.cell? ⟨gb6, 4, none⟩ = some (.bool false) := (blk_cell EI.out.b6 4).trans rfl
      have hf4 := blk_frozen EI.out.b6 4
      have hs5 : wr.cell? ⟨gb6, 5, none⟩ = some (.slice none 0 0) := (blk_cell EI.out.b6 5).trans rfl
      have hf5 := blk_frozen EI.out.b6 5
      go_wp2
      refine bodyPost_ret (results_cell_row rfl _ _ gb6 65 #[.bool true, .slice A1 acc.1.1.length c1, .bool true, .slice A3 acc.1.2.1.length c3, .bool true, .slice A5 acc.1.2.2.length c5] (0, 0) _ rfl (put6_blk EI.out.b6) Try.underlying65 rfl (by kernel_rfl)) rfl ?_
      rw [EF.out]
      refine ⟨vl', vp', _, _, _, rfl, EI.out.st.put6 EI.out.b6, put6_below EI.out.bel (Nat.le_trans hbs G_gb6.out), put6_kept EI.out.kp (.inr G_gb6.out), EI.out.gl, EI.out.gp, ?_, ?_, ?_⟩
      · exact V_base (Kd.V_mono (Kd.V_bound (put6_V (Kd.N_V (base' := 0) EI.out.no) (fun k hk e => hk.1.2.2 (.inl e)))) (fun k hk => ⟨hk.1.1.1, hk.2, hk.1.1.2.1⟩))
      · exact V_base (Kd.V_mono (Kd.V_bound (put6_V (Kd.N_V (base' := 0) EI.out.na) (fun k hk e => hk.1.2.2 (.inl e)))) (fun k hk => ⟨hk.1.1.1, hk.2, hk.1.1.2.1⟩))
      · exact V_base (Kd.V_mono (Kd.V_bound (put6_V (Kd.N_V (base' := 0) EI.out.nb) (fun k hk e => hk.1.2.2 (.inl e)))) (fun k hk => ⟨hk.1.1.1, hk.2, hk.1.1.2.1⟩))
end Go.Proofs.Ytainbaehfdhmbaa.PX
set_option linter.unusedVariables false
set_option linter.unusedSimpArgs false
namespace Go.Proofs.Ytainbaehfdhmbaa.PX
open Go.RowKit Go.Proofs.YtainbaehfdhmbaaW.PrintWords Go.Proofs.YtainbaehfdhmbaaW.PrintLast Go.Proofs.YtainbaehfdhmbaaW.PrintMore Go.Proofs.Ytainbaehfdhmbaa Go.Shelf
def EdgesSpec (wd k : Nat) : Prop := ∀ {w : World} {gm base : Nat} {As : Option Addr} {cs : Nat} {s : Sc} {vl vp : Value} {l : List Cf} {p : List ByteArray} {o a b : OT} {vo va vb : Value} {Q : Nat → Prop} (d : Int), MIn w gm base As cs s vl vp l p o a b vo va vb Q wd (k + 1) →
    Calls Try.prog 31 #[.pointer (some ⟨gm, 0, none⟩), .int .i64 d, .agg #[.bool o.1, vo, .bool a.1, va, .bool b.1, vb]] w (MPost w gm base As cs s vl vp l p Q (((true, (edgesM (mergeM s k) s d p o a b).1.1), (true, (edgesM (mergeM s k) s d p o a b).1.2.1), (true, (edgesM (mergeM s k) s d p o a b).1.2.2)), (edgesM (mergeM s k) s d p o a b).2))
theorem MIn.below {w W : World} {gm base : Nat} {As : Option Addr} {cs : Nat} {s : Sc} {vl vp : Value} {l : List Cf} {p : List ByteArray} {o a b : OT} {vo va vb : Value} {Q : Nat → Prop} {wd D : Nat} (h : MIn w gm base As cs s vl vp l p o a b vo va vb Q wd D) (hb : Below w.heap.size w W) : MIn W gm base As cs s vl vp l p o a b vo va vb Q wd D :=
  ⟨h.st.below hb, Nat.le_trans h.bs hb.size, h.ok, h.sc, Kd.F_below h.sf hb, V_base (Kd.V_below h.ho hb), V_base (Kd.V_below h.ha hb), V_base (Kd.V_below h.hb hb), fun k hk => ⟨Nat.lt_of_lt_of_le (h.q k hk).1 hb.size, (h.q k hk).2⟩, h.oo, h.oa, h.ob, h.hw, h.nl, h.np⟩
structure LInv (w W : World) (gm base : Nat) (As : Option Addr) (cs : Nat) (s : Sc) (vl vp : Value) (l : List Cf) (p : List ByteArray) (Q : Nat → Prop) (gb5 gb6 gb8 : Nat) (c5 c8 : Array Value) (cf : List Cf) (vl' vp' u1 u3 u5 : Value) (t1 t3 t5 : Tr) : Prop where
  st : MSt W gm base As s.length cs vl' vp' (l ++ cf) p
  b5 : W.heap[gb5]? = some (.cells c5 65 (0, 0))
  b6 : W.heap[gb6]? = some (.cells #[.bool false, .slice none 0 0, .bool false, .slice none 0 0, .bool false, .slice none 0 0] 65 (0, 0))
  b8 : W.heap[gb8]? = some (.cells c8 65 (0, 0))
  v1 : Kd.V k51 51 W 0 (fun k => ((Q k ∨ w.heap.size ≤ k) ∧ ¬ MS gm vl' vp' k) ∧ k ≠ gb6) u1 t1
  v3 : Kd.V k51 51 W 0 (fun k => ((Q k ∨ w.heap.size ≤ k) ∧ ¬ MS gm vl' vp' k) ∧ k ≠ gb6) u3 t3
  v5 : Kd.V k51 51 W 0 (fun k => ((Q k ∨ w.heap.size ≤ k) ∧ ¬ MS gm vl' vp' k) ∧ k ≠ gb6) u5 t5
  bel : Below base w W
  kp : Kept w W (MS gm vl vp)
theorem LInv.below {w W W' : World} {gm base : Nat} {As : Option Addr} {cs : Nat} {s : Sc} {vl vp : Value} {l : List Cf} {p : List ByteArray} {Q : Nat → Prop} {gb5 gb6 gb8 : Nat} {c5 c8 : Array Value} {cf : List Cf} {vl' vp' u1 u3 u5 : Value} {t1 t3 t5 : Tr} (h : LInv w W gm base As cs s vl vp l p Q gb5 gb6 gb8 c5 c8 cf vl' vp' u1 u3 u5 t1 t3 t5) (hbs : base ≤ w.heap.size) (hb : Below W.heap.size W W') :
    LInv w W' gm base As cs s vl vp l p Q gb5 gb6 gb8 c5 c8 cf vl' vp' u1 u3 u5 t1 t3 t5 :=
  ⟨h.st.below hb, blk_below h.b5 hb, blk_below h.b6 hb, blk_below h.b8 hb, Kd.V_below h.v1 hb, Kd.V_below h.v3 hb, Kd.V_below h.v5 hb, below_then h.bel (Nat.le_trans hbs h.bel.size) hb, h.kp.below hb⟩
def mlvT : Bool × List (List Nat × List Nat) := (true, [([], []), ([0], [0]), ([1], [1]), ([2], [2]), ([], []), ([], []), ([5], [5]), ([6], [6]), ([3, 4, 7], [3, 4, 7]), ([8, 8], [8]), ([9], [9]), ([10, 9], [9, 10]), ([11, 9], [9, 11]), ([12, 9], [9, 12]), ([9], [9]), ([9], [9]), ([15, 9], [9, 15]), ([16, 9], [9, 16]), ([13, 14, 17, 9, 9], [9, 13, 14, 17]), ([9, 18], [9, 18])])
def mlvB : List Nat := [0, 1, 3, 7, 0, 0, 32, 96, 255, 511, 1023, 2047, 4095, 8191, 1023, 1023, 33791, 99327, 262143, 524287]
theorem mlv_tab : rtab .any (opsOf Try.f21 11) = mlvT := by kernel_rfl
theorem mlv_bits : waitsOk mlvT.2 mlvB = true := by kernel_rfl
set_option maxHeartbeats 8000000 in
set_option maxRecDepth 100000 in
theorem merge_q6 {wd k : Nat} (HE : EdgesSpec wd k) {w : World} {gm base : Nat} {As : Option Addr} {cs : Nat} {s : Sc} {vl vp : Value} {l : List Cf} {p : List ByteArray} {o : OT} {a b : Tr} {vo va vb : Value} {Q : Nat → Prop} (d : Int) (h : MIn w gm base As cs s vl vp l p o ((true, a) : OT) ((true, b) : OT) vo va vb Q wd (k + 1)) (hc0 : sameO ((true, a) : OT) ((true, b) : OT) = false) (hc1 : sameO ((true, b) : OT) o = false) (hc2 : sameO ((true, a) : OT) o = false) :
    Calls Try.prog 21 #[.pointer (some ⟨gm, 0, none⟩), .int .i64 d, .agg #[.bool o.1, vo, .bool true, va, .bool true, vb]] w (MPost w gm base As cs s vl vp l p Q (mergeM s (k + 1) d p o ((true, a) : OT) ((true, b) : OT))) := by
  have hM : mergeM s (k + 1) d p o (true, a) (true, b) = if (levelM s d (edgesM (mergeM s k) s d p o (true, a) (true, b)).1.2.1 && levelM s d (edgesM (mergeM s k) s d p o (true, a) (true, b)).1.2.2) = true then (((true, (edgesM (mergeM s k) s d p o (true, a) (true, b)).1.1), (true, (edgesM (mergeM s k) s d p o (true, a) (true, b)).1.2.1), (true, (edgesM (mergeM s k) s d p o (true, a) (true, b)).1.2.2)), (edgesM (mergeM s k) s d p o (true, a) (true, b)).2) else ((o, (true, a), (true, b)), [⟨p, 2⟩]) := by
    rw [mergeM]
    simp only [hc0, hc1, hc2, Bool.or_self, Bool.false_eq_true, if_false, Bool.not_true]
  rw [hM]
  have MI := Aside0.mk h
  obtain ⟨er, her⟩ : ∃ e, e = (edgesM (mergeM s k) s d p o (true, a) (true, b)) := ⟨_, rfl⟩
  have hle := fold_lens (mergeM s k) s d p o (true, a) (true, b) (namesOf [o.2, a, b]) (([], [], []), [])
  have hnm := names3_length h.oo h.oa h.ob
  obtain ⟨hst, hbs, hok, hsc, hsf, ho, ha, hb_, hq, hoo, hoa, hob, hwd, hnl, hnp⟩ := h
  have hle3 : er.1.2.1.length ≤ 1000000 := by rw [her]; simp only [List.length_nil] at hle hnm; exact Nat.le_trans hle.2.1 (by omega)
  have hle5 : er.1.2.2.length ≤ 1000000 := by rw [her]; simp only [List.length_nil] at hle hnm; exact Nat.le_trans hle.2.2 (by omega)
  clear hle hnm
  obtain ⟨Ao, co, rfl⟩ := Kd.V_slice ho
  obtain ⟨Aa, ca, rfl⟩ := Kd.V_slice ha
  obtain ⟨Ab, cb, rfl⟩ := Kd.V_slice hb_
  obtain ⟨Al, cl, rfl⟩ := Kd.R_slice hst.hl
  have HAB : Aside0 (∀ W, Below w.heap.size w W → Calls Try.prog 27 #[.agg #[.bool true, .slice Aa a.length ca], .agg #[.bool true, .slice Ab b.length cb]] W fun e w' => e = .returned (.bool false) ∧ Below W.heap.size W w') := ⟨fun W hW => merge_same.calls true Aa ca a true Ab cb b false W (Kd.V_reads' (Kd.V_below ha hW)).2.2 (Kd.V_reads' ha).2.1 (Kd.V_reads' (Kd.V_below hb_ hW)).2.2 (Kd.V_reads' hb_).2.1 ((same_f (W := wd) (by omega) hoa).trans (congrArg some hc0))⟩
  have HBO : Aside0 (∀ W, Below w.heap.size w W → Calls Try.prog 27 #[.agg #[.bool true, .slice Ab b.length cb], .agg #[.bool o.1, .slice Ao o.2.length co]] W fun e w' => e = .returned (.bool false) ∧ Below W.heap.size W w') := ⟨fun W hW => merge_same.calls true Ab cb b o.1 Ao co o.2 false W (Kd.V_reads' (Kd.V_below hb_ hW)).2.2 (Kd.V_reads' hb_).2.1 (Kd.V_reads' (Kd.V_below ho hW)).2.2 (Kd.V_reads' ho).2.1 ((same_f (W := wd) (by omega) hob).trans (congrArg some hc1))⟩
  have HAO : Aside0 (∀ W, Below w.heap.size w W → Calls Try.prog 27 #[.agg #[.bool true, .slice Aa a.length ca], .agg #[.bool o.1, .slice Ao o.2.length co]] W fun e w' => e = .returned (.bool false) ∧ Below W.heap.size W w') := ⟨fun W hW => merge_same.calls true Aa ca a o.1 Ao co o.2 false W (Kd.V_reads' (Kd.V_below ha hW)).2.2 (Kd.V_reads' ha).2.1 (Kd.V_reads' (Kd.V_below ho hW)).2.2 (Kd.V_reads' ho).2.1 ((same_f (W := wd) (by omega) hoa).trans (congrArg some hc2))⟩
  replace HE := Aside0.mk (fun W (hW : MIn W gm base As cs s (.slice Al l.length cl) vp l p o (true, a) (true, b) (.slice Ao o.2.length co) (.slice Aa a.length ca) (.slice Ab b.length cb) Q wd (k + 1)) => HE d hW)
  rw [← her] at HE ⊢
  obtain ⟨r1, hr1⟩ : ∃ r, levelM s d er.1.2.1 = r := ⟨_, rfl⟩
  obtain ⟨r2, hr2⟩ : ∃ r, levelM s d er.1.2.2 = r := ⟨_, rfl⟩
  have HR1 := Aside0.mk (show schema_Level.f s d er.1.2.1 = some r1 by unfold schema_Level.f; rw [if_pos ⟨hok, by omega⟩, hr1])
  have HR2 := Aside0.mk (show schema_Level.f s d er.1.2.2 = some r2 by unfold schema_Level.f; rw [if_pos ⟨hok, by omega⟩, hr2])
  rw [hr1, hr2]
  obtain ⟨res, hres⟩ : ∃ r, (if (r1 && r2) = true then (((true, er.1.1), (true, er.1.2.1), (true, er.1.2.2)), er.2) else ((o, (true, a), (true, b)), [⟨p, 2⟩]) : T3 × List Cf) = r := ⟨_, rfl⟩
  have HRES := Aside0.mk hres
  rw [hres]
  clear hres
  have VO := Aside0.mk ho
  have VA := Aside0.mk ha
  have VB := Aside0.mk hb_
  have HXO := hoo
  have HXA := hoa
  have HXB := hob
  have ST := Aside0.mk hst
  have SF := Aside0.mk hsf
  have HQ := Aside0.mk hq
  have HBB := Aside0.mk (fun W (h : Below w.heap.size w W) => (⟨h.os, h.tape, h.output, h.size, fun i hi => h.block i (Nat.lt_of_lt_of_le hi hbs)⟩ : Below base w W))
  clear ho ha hb_ hst hq hsf hc0 hc1 hc2 hM hr1 hr2 her hok
  have hnl' : l.length ≤ 1000000000 := by omega
  clear hnl
  have hu := Try.underlying65
  have hu2 := Try.underlying26
  have hu3 := Try.underlying63
  have HB := Aside0.mk (Below.refl w.heap.size w)
  go_enter Try.func21, Try.ntmps21
  go_wp2_with (first
    | ((with_reducible refine gate_dst (N := 5) rfl ?_); refine box_event ?hg (N := 5) ?hd (cs := #[.bool o.1, .slice Ao o.2.length co, .bool true, .slice Aa a.length ca, .bool true, .slice Ab b.length cb]) (t := 65) ?hr ?_; (case hd => rfl); (case hg => rfl); (case hr => first | (go_simp; done) | (go_simp; rfl)); intro gb5 hg w5 hbox hb; have G_gb5 := Aside0.mk (show w.heap.size ≤ gb5 from by rw [hg]; exact HB.out.size); have NB := Aside0.mk (below_step HB.out hb); clear HB; have HB := NB; clear NB; have BK5 := Aside0.mk hbox; clear hbox hg hb)
    | ((with_reducible refine gate_dst (N := 6) rfl ?_); refine box_event ?hg (N := 6) ?hd (cs := #[.bool false, .slice none 0 0, .bool false, .slice none 0 0, .bool false, .slice none 0 0]) (t := 65) ?hr ?_; (case hd => rfl); (case hg => rfl); (case hr => first | (go_simp; done) | (go_simp; rfl)); intro gb6 hg w6 hbox hb; have N_BK5 := Aside0.mk (blk_below BK5.out hb); clear BK5; have BK5 := N_BK5; clear N_BK5; have G_gb6 := Aside0.mk (show w.heap.size ≤ gb6 from by rw [hg]; exact HB.out.size); have NB := Aside0.mk (below_step HB.out hb); clear HB; have HB := NB; clear NB; have BK6 := Aside0.mk hbox; clear hbox hg hb; have x0 : w6.cell? ⟨gb5, 0, none⟩ = some (.bool o.1) := (blk_cell BK5.out 0).trans rfl; have x1 : w6.cell? ⟨gb5, 1, none⟩ = some (.slice Ao o.2.length co) := (blk_cell BK5.out 1).trans rfl; have x2 : w6.cell? ⟨gb5, 2, none⟩ = some (.bool true) := (blk_cell BK5.out 2).trans rfl; have x3 : w6.cell? ⟨gb5, 3, none⟩ = some (.slice Aa a.length ca) := (blk_cell BK5.out 3).trans rfl; have x4 : w6.cell? ⟨gb5, 4, none⟩ = some (.bool true) := (blk_cell BK5.out 4).trans rfl; have x5 : w6.cell? ⟨gb5, 5, none⟩ = some (.slice Ab b.length cb) := (blk_cell BK5.out 5).trans rfl)
    | (go_at_call 27; (with_reducible refine (HAB.out _ HB.out).mono ?_); rintro e_ w7 ⟨rfl, hb⟩; clear x0 x1 x2 x3 x4 x5; have N5 := Aside0.mk (blk_below BK5.out hb); have N6 := Aside0.mk (blk_below BK6.out hb); have NB := Aside0.mk (below_step HB.out hb); clear HB BK5 BK6 hb; have HB := NB; have BK5 := N5; have BK6 := N6; clear NB N5 N6; have x0 : w7.cell? ⟨gb5, 0, none⟩ = some (.bool o.1) := (blk_cell BK5.out 0).trans rfl; have x1 : w7.cell? ⟨gb5, 1, none⟩ = some (.slice Ao o.2.length co) := (blk_cell BK5.out 1).trans rfl; have x2 : w7.cell? ⟨gb5, 2, none⟩ = some (.bool true) := (blk_cell BK5.out 2).trans rfl; have x3 : w7.cell? ⟨gb5, 3, none⟩ = some (.slice Aa a.length ca) := (blk_cell BK5.out 3).trans rfl; have x4 : w7.cell? ⟨gb5, 4, none⟩ = some (.bool true) := (blk_cell BK5.out 4).trans rfl; have x5 : w7.cell? ⟨gb5, 5, none⟩ = some (.slice Ab b.length cb) := (blk_cell BK5.out 5).trans rfl)
    | (go_at_call 27; (with_reducible refine (HBO.out _ HB.out).mono ?_); rintro e_ w8 ⟨rfl, hb⟩; clear x0 x1 x2 x3 x4 x5; have N5 := Aside0.mk (blk_below BK5.out hb); have N6 := Aside0.mk (blk_below BK6.out hb); have NB := Aside0.mk (below_step HB.out hb); clear HB BK5 BK6 hb; have HB := NB; have BK5 := N5; have BK6 := N6; clear NB N5 N6; have x0 : w8.cell? ⟨gb5, 0, none⟩ = some (.bool o.1) := (blk_cell BK5.out 0).trans rfl; have x1 : w8.cell? ⟨gb5, 1, none⟩ = some (.slice Ao o.2.length co) := (blk_cell BK5.out 1).trans rfl; have x2 : w8.cell? ⟨gb5, 2, none⟩ = some (.bool true) := (blk_cell BK5.out 2).trans rfl; have x3 : w8.cell? ⟨gb5, 3, none⟩ = some (.slice Aa a.length ca) := (blk_cell BK5.out 3).trans rfl; have x4 : w8.cell? ⟨gb5, 4, none⟩ = some (.bool true) := (blk_cell BK5.out 4).trans rfl; have x5 : w8.cell? ⟨gb5, 5, none⟩ = some (.slice Ab b.length cb) := (blk_cell BK5.out 5).trans rfl)
    | (go_at_call 27; (with_reducible refine (HAO.out _ HB.out).mono ?_); rintro e_ w9 ⟨rfl, hb⟩; clear x0 x1 x2 x3 x4 x5; have N5 := Aside0.mk (blk_below BK5.out hb); have N6 := Aside0.mk (blk_below BK6.out hb); have NB := Aside0.mk (below_step HB.out hb); clear HB BK5 BK6 hb; have HB := NB; have BK5 := N5; have BK6 := N6; clear NB N5 N6; have x0 : w9.cell? ⟨gb5, 0, none⟩ = some (.bool o.1) := (blk_cell BK5.out 0).trans rfl; have x1 : w9.cell? ⟨gb5, 1, none⟩ = some (.slice Ao o.2.length co) := (blk_cell BK5.out 1).trans rfl; have x2 : w9.cell? ⟨gb5, 2, none⟩ = some (.bool true) := (blk_cell BK5.out 2).trans rfl; have x3 : w9.cell? ⟨gb5, 3, none⟩ = some (.slice Aa a.length ca) := (blk_cell BK5.out 3).trans rfl; have x4 : w9.cell? ⟨gb5, 4, none⟩ = some (.bool true) := (blk_cell BK5.out 4).trans rfl; have x5 : w9.cell? ⟨gb5, 5, none⟩ = some (.slice Ab b.length cb) := (blk_cell BK5.out 5).trans rfl; have z1 : w9.cell? ⟨gm, 1, none⟩ = some (.slice Al l.length cl) := (blk_cell (MI.out.below HB.out).st.blk 1).trans rfl)
    | (go_at_call 31; (refine (HE.out _ (MI.out.below HB.out)).mono ?_); rintro e_ w10 ⟨vl2, vp2, uo, ua, ub, rfl, hst2, hbb, hkk, hg1, hg2, hv1, hv3, hv5⟩; clear x0 x1 x2 x3 x4 x5; clear z1; obtain ⟨A1, c1, rfl⟩ := Kd.V_slice hv1; obtain ⟨A3, c3, rfl⟩ := Kd.V_slice hv3; obtain ⟨A5, c5, rfl⟩ := Kd.V_slice hv5; have N5 := Aside0.mk (blk_kept BK5.out hkk (not_ms (MI.out.below HB.out).st BK5.out (by decide) (by decide) (by decide))); have N6 := Aside0.mk (blk_kept BK6.out hkk (not_ms (MI.out.below HB.out).st BK6.out (by decide) (by decide) (by decide))); have SZ9 := Aside0.mk HB.out.size; have L6 := Aside0.mk (blk_lt BK6.out); have L5 := Aside0.mk (blk_lt N5.out); have L6b := Aside0.mk (blk_lt N6.out); have ST2 := Aside0.mk hst2; have BB := Aside0.mk (Below.trans (HBB.out _ HB.out) hbb); have KP := Aside0.mk ((Kept.of_below HB.out (MS gm (.slice Al l.length cl) vp)).then_ hkk (fun k hk => .inl hk)); have GL := Aside0.mk (Gr.trans (.inl rfl) HB.out.size hg1); have GP := Aside0.mk (Gr.trans (.inl rfl) HB.out.size hg2); have V1 := Aside0.mk hv1; have V3 := Aside0.mk hv3; have V5 := Aside0.mk hv5; have SZ10 := Aside0.mk (Nat.le_trans HB.out.size hkk.1); clear HB BK5 BK6 hst2 hbb hkk hg1 hg2 hv1 hv3 hv5; have HB := Aside0.mk (Below.refl w10.heap.size w10); have BK5 := N5; have BK6 := N6; clear N5 N6)
    | ((with_reducible refine gate_dst (N := 8) rfl ?_); refine box_event ?hg (N := 8) ?hd (cs := #[.bool false, .slice none 0 0, .bool false, .slice none 0 0, .bool false, .slice none 0 0]) (t := 65) ?hr ?_; (case hd => rfl); (case hg => rfl); (case hr => first | (go_simp; done) | (go_simp; rfl)); intro gb8 hg w11 hbox hb; have N_BK5 := Aside0.mk (blk_below BK5.out hb); clear BK5; have BK5 := N_BK5; clear N_BK5; have N_BK6 := Aside0.mk (blk_below BK6.out hb); clear BK6; have BK6 := N_BK6; clear N_BK6; have G_gb8 := Aside0.mk (show w10.heap.size ≤ gb8 from by rw [hg]; exact HB.out.size); have NB := Aside0.mk (below_step HB.out hb); clear HB; have HB := NB; clear NB; have BK8 := Aside0.mk hbox; clear hbox hg hb; have hs0 : w11.cell? ⟨gb8, 0, none⟩ = some (.bool false) := (blk_cell BK8.out 0).trans rfl; have hf0 := blk_frozen BK8.out 0; have hs1 : w11.cell? ⟨gb8, 1, none⟩ = some (.slice none 0 0) := (blk_cell BK8.out 1).trans rfl; have hf1 := blk_frozen BK8.out 1; have hs2 : w11.cell? ⟨gb8, 2, none⟩ = some (.bool false) := (blk_cell BK8.out 2).trans rfl; have hf2 := blk_frozen BK8.out 2; have hs3 : w11.cell? ⟨gb8, 3, none⟩ = some (.slice none 0 0) := (blk_cell BK8.out 3).trans rfl; have hf3 := blk_frozen BK8.out 3; have hs4 : w11.cell? ⟨gb8, 4, none⟩ = some (.bool false) := (blk_cell BK8.out 4).trans rfl; have hf4 := blk_frozen BK8.out 4; have hs5 : w11.cell? ⟨gb8, 5, none⟩ = some (.slice none 0 0) := (blk_cell BK8.out 5).trans rfl; have hf5 := blk_frozen BK8.out 5))
  have h5n : gb5 ≠ gb8 := by have h1 := L5.out; have h2 := G_gb8.out; omega
  have h6n : gb6 ≠ gb8 := by have h1 := L6b.out; have h2 := G_gb8.out; omega
  have hb8 : w.heap.size ≤ gb8 := Nat.le_trans SZ10.out G_gb8.out
  have hQ6 : ∀ k, (Q k ∨ w9.heap.size ≤ k) → k ≠ gb6 := fun k hk e => by
    have h1 := L6.out
    have h2 := G_gb6.out
    rcases hk with hk | hk
    · have := (HQ.out k hk).1
      omega
    · omega
  have hV : ∀ {v : Value} {t : Tr} {B : Nat}, Kd.V k51 51 w10 B (fun k => (Q k ∨ w9.heap.size ≤ k) ∧ k < w10.heap.size ∧ ¬ MS gm vl2 vp2 k) v t → Kd.V k51 51 (put6 w11 gb8 (.bool true) (.slice A1 er.1.1.length c1) (.bool true) (.slice A3 er.1.2.1.length c3) (.bool true) (.slice A5 er.1.2.2.length c5)) 0 (fun k => ((Q k ∨ w.heap.size ≤ k) ∧ ¬ MS gm vl2 vp2 k) ∧ k ≠ gb6) v t := fun hv =>
    Kd.V_mono (put6_V (Kd.V_mono (V_base (b' := 0) (Kd.V_below hv HB.out)) (ok' := fun k => (((Q k ∨ w.heap.size ≤ k) ∧ ¬ MS gm vl2 vp2 k) ∧ k ≠ gb6) ∧ k ≠ gb8) (fun k hk => ⟨⟨⟨hk.1.imp_right (fun h => Nat.le_trans SZ9.out h), hk.2.2⟩, hQ6 k hk.1⟩, fun e => by have h1 := hk.2.1; have h2 := G_gb8.out; omega⟩)) (fun _ hk => hk.2)) (fun _ hk => hk.1)
  have hk8 : Kept w11 (put6 w11 gb8 (.bool true) (.slice A1 er.1.1.length c1) (.bool true) (.slice A3 er.1.2.1.length c3) (.bool true) (.slice A5 er.1.2.2.length c5)) (fun k => k = gb8) := put6_kept (Kept.refl _ _) (.inl rfl)
  have LI := Aside0.mk (show LInv w (put6 w11 gb8 (.bool true) (.slice A1 er.1.1.length c1) (.bool true) (.slice A3 er.1.2.1.length c3) (.bool true) (.slice A5 er.1.2.2.length c5)) gm base As cs s (.slice Al l.length cl) vp l p Q gb5 gb6 gb8 #[.bool o.1, .slice Ao o.2.length co, .bool true, .slice Aa a.length ca, .bool true, .slice Ab b.length cb] #[.bool true, .slice A1 er.1.1.length c1, .bool true, .slice A3 er.1.2.1.length c3, .bool true, .slice A5 er.1.2.2.length c5] er.2 vl2 vp2 (.slice A1 er.1.1.length c1) (.slice A3 er.1.2.1.length c3) (.slice A5 er.1.2.2.length c5) er.1.1 er.1.2.1 er.1.2.2 from
    ⟨(ST2.out.below HB.out).put6 BK8.out, blk_kept BK5.out hk8 h5n, blk_kept BK6.out hk8 h6n, put6_blk BK8.out, hV V1.out, hV V3.out, hV V5.out, put6_below (below_then BB.out (Nat.le_trans hbs SZ10.out) HB.out) (Nat.le_trans hbs hb8), put6_kept (KP.out.below HB.out) (.inr hb8)⟩)
  clear hk8 hV hQ6 hs0 hs1 hs2 hs3 hs4 hs5 hf0 hf1 hf2 hf3 hf4 hf5 V1 V3 V5 BK5 BK6 BK8 ST2 HB KP BB
  change Code.wp _ _ _ _ (put6 w11 gb8 (.bool true) (.slice A1 er.1.1.length c1) (.bool true) (.slice A3 er.1.2.1.length c3) (.bool true) (.slice A5 er.1.2.2.length c5))
  generalize put6 w11 gb8 (.bool true) (.slice A1 er.1.1.length c1) (.bool true) (.slice A3 er.1.2.1.length c3) (.bool true) (.slice A5 er.1.2.2.length c5) = W12 at LI ⊢
  have EIc := Aside0.mk (LI.out.below hbs (bD_ (Below.refl W12.heap.size W12)))
  clear LI
  refine start_ (n := 20) (S := fun w' => w'.cell? ⟨gm, 0, none⟩ = some (.slice As s.length cs) ∧ w'.cell? ⟨gb8, 3, none⟩ = some (.slice A3 er.1.2.1.length c3) ∧ w'.cell? ⟨gb8, 5, none⟩ = some (.slice A5 er.1.2.2.length c5)) (ds := []) #[false, false, false, false, false, false, false, false, false, false, false, false, false, false, false, false, false, false, false, false] (by kernel_rfl) rfl rfl ⟨(blk_cell EIc.out.st.blk 0).trans rfl, (blk_cell EIc.out.b8 3).trans rfl, (blk_cell EIc.out.b8 5).trans rfl⟩ (fun hHeld => ?_); refine with_tabW mlv_tab mlv_bits (fun HT_ HW_ => ?_)
  generalize W12.drew = W13 at EIc hHeld ⊢
  refine pure_ (i := 0) (N := some 56) (v := ?_) (a' := ?_) #[true, false, false, false, false, false, false, false, false, false, false, false, false, false, false, false, false, false, false, false] rfl rfl (any_of HT_.out (by kernel_rfl)) (fun _ _ _ h => h) (Or.inl ⟨by rfl, ?_⟩) ?_ ?_
  rotate_left
  · intro w'
    go_simp
    with_reducible rfl
  rotate_left
  · simp only [Act.put, List.setIfInBounds_toArray, List.set_cons_zero, List.set_cons_succ, i64_w, i32_w]
    rfl
  refine pure_ (i := 1) (N := some 57) (v := ?_) (a' := ?_) #[true, true, false, false, false, false, false, false, false, false, false, false, false, false, false, false, false, false, false, false] rfl rfl (any_of HT_.out (by kernel_rfl)) (fun _ _ _ h => h) (Or.inl ⟨by rfl, ?_⟩) ?_ ?_
  rotate_left
  · intro w'
    go_simp
    with_reducible rfl
  rotate_left
  · simp only [Act.put, List.setIfInBounds_toArray, List.set_cons_zero, List.set_cons_succ, i64_w, i32_w]
    rfl
  refine pure_ (i := 2) (N := some 58) (v := ?_) (a' := ?_) #[true, true, true, false, false, false, false, false, false, false, false, false, false, false, false, false, false, false, false, false] rfl rfl (any_of HT_.out (by kernel_rfl)) (fun _ _ _ h => h) (Or.inl ⟨by rfl, ?_⟩) ?_ ?_
  rotate_left
  · intro w'
    go_simp
    with_reducible rfl
  rotate_left
  · simp only [Act.put, List.setIfInBounds_toArray, List.set_cons_zero, List.set_cons_succ, i64_w, i32_w]
    rfl
  refine take_ (i := 3) (N := some 59) (v := ?_) (a' := ?_) #[true, true, true, true, false, false, false, false, false, false, false, false, false, false, false, false, false, false, false, false] rfl rfl (take_ofW HT_.out HW_.out (by kernel_rfl)) (fun _ _ _ h => h) (Or.inl ⟨by rfl, ?_⟩) hHeld ?_ ?_
  rotate_left
  · rintro w' ⟨s0, s1, s2⟩
    go_simp
    with_reducible rfl
  rotate_left
  · simp only [Act.put, List.setIfInBounds_toArray, List.set_cons_zero, List.set_cons_succ, i64_w, i32_w]
    rfl
  refine pure_ (i := 4) (N := some 60) (v := ?_) (a' := ?_) #[true, true, true, true, true, false, false, false, false, false, false, false, false, false, false, false, false, false, false, false] rfl rfl (any_of HT_.out (by kernel_rfl)) (fun _ _ _ h => h) (Or.inl ⟨by rfl, ?_⟩) ?_ ?_
  rotate_left
  · intro w'
    go_simp
    with_reducible rfl
  rotate_left
  · simp only [Act.put, List.setIfInBounds_toArray, List.set_cons_zero, List.set_cons_succ, i64_w, i32_w]
    rfl
  refine pure_ (i := 5) (N := some 61) (v := ?_) (a' := ?_) #[true, true, true, true, true, true, false, false, false, false, false, false, false, false, false, false, false, false, false, false] rfl rfl (any_of HT_.out (by kernel_rfl)) (fun _ _ _ h => h) (Or.inl ⟨by rfl, ?_⟩) ?_ ?_
  rotate_left
  · intro w'
    go_simp
    with_reducible rfl
  rotate_left
  · simp only [Act.put, List.setIfInBounds_toArray, List.set_cons_zero, List.set_cons_succ, i64_w, i32_w]
    rfl
  refine pure_ (i := 6) (N := some 62) (v := ?_) (a' := ?_) #[true, true, true, true, true, true, true, false, false, false, false, false, false, false, false, false, false, false, false, false] rfl rfl (any_of HT_.out (by kernel_rfl)) (fun _ _ _ h => h) (Or.inl ⟨by rfl, ?_⟩) ?_ ?_
  rotate_left
  · intro w'
    go_simp
    with_reducible rfl
  rotate_left
  · simp only [Act.put, List.setIfInBounds_toArray, List.set_cons_zero, List.set_cons_succ, i64_w, i32_w]
    rfl
  refine take_ (i := 7) (N := some 63) (v := ?_) (a' := ?_) #[true, true, true, true, true, true, true, true, false, false, false, false, false, false, false, false, false, false, false, false] rfl rfl (take_ofW HT_.out HW_.out (by kernel_rfl)) (fun _ _ _ h => h) (Or.inl ⟨by rfl, ?_⟩) hHeld ?_ ?_
  rotate_left
  · rintro w' ⟨s0, s1, s2⟩
    go_simp
    with_reducible rfl
  rotate_left
  · simp only [Act.put, List.setIfInBounds_toArray, List.set_cons_zero, List.set_cons_succ, i64_w, i32_w]
    rfl
  refine one_ (i := 8) (N := some 64) #[true, true, true, true, true, true, true, true, true, false, false, false, false, false, false, false, false, false, false, false] rfl rfl (one_of HT_.out (by kernel_rfl)) (by decide) (fun K hK => ?_)
  refine goes_ Try.func32 (by kernel_rfl) rfl #[.slice As s.length cs, .int .i64 d, .slice A3 er.1.2.1.length c3] (by rfl) rfl rfl (by (try simp only [List.map_toArray, List.map_cons, List.map_nil]); first | done | rfl) ?_
  refine (schema_Level.calls As cs s d A3 c3 er.1.2.1 r1 _ (Kd.F_now (Kd.F_kept SF.out EIc.out.kp (fun k hk => (HQ.out k hk).2))) hsc (Kd.V_reads' EIc.out.v3).2.2 (Kd.V_reads' EIc.out.v3).2.1 HR1.out).mono ?_
  rintro e w14 ⟨rfl, hb⟩
  refine ⟨_, rfl, ?_⟩
  have NE := Aside0.mk (EIc.out.below hbs hb)
  clear EIc hb HR1
  have EIc := NE
  clear NE
  refine hK.out _ _ ⟨(blk_cell EIc.out.st.blk 0).trans rfl, (blk_cell EIc.out.b8 3).trans rfl, (blk_cell EIc.out.b8 5).trans rfl⟩ (fun hHeld => ?_)
  clear hK K
  refine norm_ (a' := ?_) ?_ ?_
  rotate_left
  · show Act.put _ (some 64) _ = _
    simp only [Act.put, List.setIfInBounds_toArray, List.set_cons_zero, List.set_cons_succ, i64_w, i32_w]
    rfl
  cases r1
  · skip
    refine pure_ (i := 9) (N := some 65) (v := ?_) (a' := ?_) #[true, true, true, true, true, true, true, true, true, true, false, false, false, false, false, false, false, false, false, false] rfl rfl (any_of HT_.out (by kernel_rfl)) (fun _ _ _ h => h) (Or.inl ⟨by rfl, ?_⟩) ?_ ?_
    rotate_left
    · intro w'
      go_simp
      with_reducible rfl
    rotate_left
    · simp only [Act.put, List.setIfInBounds_toArray, List.set_cons_zero, List.set_cons_succ, i64_w, i32_w]
      rfl
    refine pure_ (i := 10) (N := some 66) (v := undef) (a' := ?_) #[true, true, true, true, true, true, true, true, true, true, true, false, false, false, false, false, false, false, false, false] rfl rfl (any_of HT_.out (by kernel_rfl)) (fun _ _ _ h => h) (Or.inr ⟨by rfl, rfl⟩) ?_ ?_
    rotate_left
    · simp only [Act.put, List.setIfInBounds_toArray, List.set_cons_zero, List.set_cons_succ, i64_w, i32_w]
      rfl
    refine pure_ (i := 11) (N := some 67) (v := undef) (a' := ?_) #[true, true, true, true, true, true, true, true, true, true, true, true, false, false, false, false, false, false, false, false] rfl rfl (any_of HT_.out (by kernel_rfl)) (fun _ _ _ h => h) (Or.inr ⟨by rfl, rfl⟩) ?_ ?_
    rotate_left
    · simp only [Act.put, List.setIfInBounds_toArray, List.set_cons_zero, List.set_cons_succ, i64_w, i32_w]
      rfl
    refine pure_ (i := 12) (N := some 68) (v := undef) (a' := ?_) #[true, true, true, true, true, true, true, true, true, true, true, true, true, false, false, false, false, false, false, false] rfl rfl (any_of HT_.out (by kernel_rfl)) (fun _ _ _ h => h) (Or.inr ⟨by rfl, rfl⟩) ?_ ?_
    rotate_left
    · simp only [Act.put, List.setIfInBounds_toArray, List.set_cons_zero, List.set_cons_succ, i64_w, i32_w]
      rfl
    refine pure_ (i := 13) (N := some 69) (v := undef) (a' := ?_) #[true, true, true, true, true, true, true, true, true, true, true, true, true, true, false, false, false, false, false, false] rfl rfl (any_of HT_.out (by kernel_rfl)) (fun _ _ _ h => h) (Or.inr ⟨by rfl, rfl⟩) ?_ ?_
    rotate_left
    · simp only [Act.put, List.setIfInBounds_toArray, List.set_cons_zero, List.set_cons_succ, i64_w, i32_w]
      rfl
    refine pure_ (i := 14) (N := some 70) (v := undef) (a' := ?_) #[true, true, true, true, true, true, true, true, true, true, true, true, true, true, true, false, false, false, false, false] rfl rfl (any_of HT_.out (by kernel_rfl)) (fun _ _ _ h => h) (Or.inr ⟨by rfl, rfl⟩) ?_ ?_
    rotate_left
    · simp only [Act.put, List.setIfInBounds_toArray, List.set_cons_zero, List.set_cons_succ, i64_w, i32_w]
      rfl
    refine pure_ (i := 15) (N := some 71) (v := undef) (a' := ?_) #[true, true, true, true, true, true, true, true, true, true, true, true, true, true, true, true, false, false, false, false] rfl rfl (any_of HT_.out (by kernel_rfl)) (fun _ _ _ h => h) (Or.inr ⟨by rfl, rfl⟩) ?_ ?_
    rotate_left
    · simp only [Act.put, List.setIfInBounds_toArray, List.set_cons_zero, List.set_cons_succ, i64_w, i32_w]
      rfl
    refine pure_ (i := 16) (N := some 72) (v := undef) (a' := ?_) #[true, true, true, true, true, true, true, true, true, true, true, true, true, true, true, true, true, false, false, false] rfl rfl (any_of HT_.out (by kernel_rfl)) (fun _ _ _ h => h) (Or.inr ⟨by rfl, rfl⟩) ?_ ?_
    rotate_left
    · simp only [Act.put, List.setIfInBounds_toArray, List.set_cons_zero, List.set_cons_succ, i64_w, i32_w]
      rfl
    refine pure_ (i := 17) (N := some 73) (v := undef) (a' := ?_) #[true, true, true, true, true, true, true, true, true, true, true, true, true, true, true, true, true, true, false, false] rfl rfl (any_of HT_.out (by kernel_rfl)) (fun _ _ _ h => h) (Or.inr ⟨by rfl, rfl⟩) ?_ ?_
    rotate_left
    · simp only [Act.put, List.setIfInBounds_toArray, List.set_cons_zero, List.set_cons_succ, i64_w, i32_w]
      rfl
    refine one_ (i := 18) (N := some 74) #[true, true, true, true, true, true, true, true, true, true, true, true, true, true, true, true, true, true, true, false] rfl rfl (one_of HT_.out (by kernel_rfl)) (by decide) (fun K hK => ?_)
    refine off_ (by rfl) ?_
    refine hK.out _ _ ⟨(blk_cell EIc.out.st.blk 0).trans rfl, (blk_cell EIc.out.b8 3).trans rfl, (blk_cell EIc.out.b8 5).trans rfl⟩ (fun hHeld => ?_)
    clear hK K
    refine norm_ (a' := ?_) ?_ ?_
    rotate_left
    · show Act.put _ (some 74) _ = _
      simp only [Act.put, List.setIfInBounds_toArray, List.set_cons_zero, List.set_cons_succ, i64_w, i32_w]
      rfl
    refine pure_ (i := 19) (N := some 75) (v := ?_) (a' := ?_) #[true, true, true, true, true, true, true, true, true, true, true, true, true, true, true, true, true, true, true, true] rfl rfl (any_of HT_.out (by kernel_rfl)) (fun _ _ _ h => h) (Or.inl ⟨by rfl, ?_⟩) ?_ ?_
    rotate_left
    · intro w'
      go_simp
      with_reducible rfl
    rotate_left
    · simp only [Act.put, List.setIfInBounds_toArray, List.set_cons_zero, List.set_cons_succ, i64_w, i32_w]
      rfl
    generalize w14 = w15 at EIc ⊢
    obtain ⟨Al2, cl2, hvl2⟩ := Kd.R_slice EIc.out.st.hl
    subst hvl2
    have hcl2 := (Kd.R_reads' EIc.out.st.hl).2.1
    rw [List.length_append] at hcl2
    have HWP := Aside0.mk (show wrap64 (l.length : Int) = (l.length : Int) from wrap_nat (by omega))
    have z1 : w15.cell? ⟨gm, 1, none⟩ = some (.slice Al2 (l ++ er.2).length cl2) := (blk_cell EIc.out.st.blk 1).trans rfl
    have hfz := blk_frozen EIc.out.st.blk 1
    have hown : (Value.slice Al2 l.length cl2).ownBlock = (Value.slice Al2 (l ++ er.2).length cl2).ownBlock := by cases Al2 <;> rfl
    have htk : (l ++ er.2).take l.length = l := by simp
    have hRl : Kd.R k38 38 w15 base (fun k => some k ≠ vp2.ownBlock) (.slice Al2 l.length cl2) l := by
      have := Kd.R_take (m := l.length) EIc.out.st.hl (by simp)
      rwa [htk] at this
    have hgm : w15.heap[gm]? = some (.cells #[.slice As s.length cs, .slice Al2 (l ++ er.2).length cl2, vp2] 63 (0, 0)) := EIc.out.st.blk
    have ST13 := Aside0.mk (show MSt (w15.setCell ⟨gm, 1, none⟩ (.slice Al2 l.length cl2)) gm base As s.length cs (.slice Al2 l.length cl2) vp2 l p from
      ⟨blk_put (cs := #[.slice As s.length cs, .slice Al2 (l ++ er.2).length cl2, vp2]) EIc.out.st.blk 1 _ rfl, Kd.R_mono (Kd.R_far (p := ⟨gm, 1, none⟩) (Kd.R_types hRl EIc.out.st.blk (by decide)) (fun _ hk => hk.2) _) (fun _ hk => hk.1), Kd.R_mono (Kd.R_far (p := ⟨gm, 1, none⟩) (Kd.R_types EIc.out.st.hp EIc.out.st.blk (by decide)) (fun _ hk => hk.2) _) (fun _ _ => trivial), ST.out.hb⟩)
    have KP13 := Aside0.mk (Kept.setCell (p := ⟨gm, 1, none⟩) EIc.out.kp (.inl (.inl rfl)) (.slice Al2 l.length cl2))
    have BB13 := Aside0.mk (Below.setCell EIc.out.bel ST.out.hb (p := ⟨gm, 1, none⟩) (.slice Al2 l.length cl2))
    have GL13 := Aside0.mk (show Gr w (.slice Al l.length cl) (.slice Al2 l.length cl2) from by unfold Gr; rw [hown]; exact GL.out)
    have B513 := Aside0.mk (blk_far EIc.out.b5 (p := ⟨gm, 1, none⟩) (blk_ne EIc.out.b5 hgm (by decide)) (.slice Al2 l.length cl2))
    have B613 := Aside0.mk (blk_far EIc.out.b6 (p := ⟨gm, 1, none⟩) (blk_ne EIc.out.b6 hgm (by decide)) (.slice Al2 l.length cl2))
    have N513 := Aside0.mk (not_ms ST13.out B513.out (by decide) (by decide) (by decide))
    have N613 := Aside0.mk (not_ms ST13.out B613.out (by decide) (by decide) (by decide))
    have SB := Aside0.mk (show base ≤ (w15.setCell ⟨gm, 1, none⟩ (.slice Al2 l.length cl2)).heap.size from Nat.le_trans hbs KP13.out.1)
    clear EIc hown htk hRl hgm hHeld
    refine done_ (done_of HT_.out (by kernel_rfl)) ?_
    go_wp2_with (first
      | (go_at_call 29; (refine (conflict_calls gm base As s.length cs (.slice Al2 l.length cl2) vp2 l p 2 _ ST13.out (by omega) (by omega) SB.out).mono ?_); rintro e_ w16 ⟨rfl, vl3, hst3, hbb, hkp, hgr⟩; have K16 := Aside0.mk (KP13.out.then_ hkp (fun k hk => hk.elim (fun e => .inl (.inl e)) (fun e => GL13.out.elim (fun g => .inl (.inr (.inl (e.trans g)))) (fun ⟨q, g1, g2⟩ => .inr (by rw [g1] at e; injection e with e; omega))))); have B16 := Aside0.mk (Below.trans BB13.out hbb); have ST16 := Aside0.mk hst3; have GL3 := Aside0.mk (Gr.trans GL13.out KP13.out.1 hgr); have BK5 := Aside0.mk (blk_kept B513.out hkp (fun h => N513.out (h.imp_right Or.inl))); have BK6 := Aside0.mk (blk_kept B613.out hkp (fun h => N613.out (h.imp_right Or.inl))); clear z1 hfz hst3 hbb hkp hgr ST13 KP13 GL13 BB13 B513 B613 N513 N613; have x0 : w16.cell? ⟨gb5, 0, none⟩ = some (.bool o.1) := (blk_cell BK5.out 0).trans rfl; have x1 : w16.cell? ⟨gb5, 1, none⟩ = some (.slice Ao o.2.length co) := (blk_cell BK5.out 1).trans rfl; have x2 : w16.cell? ⟨gb5, 2, none⟩ = some (.bool true) := (blk_cell BK5.out 2).trans rfl; have x3 : w16.cell? ⟨gb5, 3, none⟩ = some (.slice Aa a.length ca) := (blk_cell BK5.out 3).trans rfl; have x4 : w16.cell? ⟨gb5, 4, none⟩ = some (.bool true) := (blk_cell BK5.out 4).trans rfl; have x5 : w16.cell? ⟨gb5, 5, none⟩ = some (.slice Ab b.length cb) := (blk_cell BK5.out 5).trans rfl)
      | (go_at_call 30; (refine (stay_c (by omega) HXO HXA HXB _ (Kd.V_kept VO.out K16.out (fun k hk => (HQ.out k hk).2)) (Kd.V_kept VA.out K16.out (fun k hk => (HQ.out k hk).2)) (Kd.V_kept VB.out K16.out (fun k hk => (HQ.out k hk).2))).mono ?_); rintro e_ w17 ⟨v1, v3, v5, rfl, hv1, hv3, hv5, hb⟩; clear x0 x1 x2 x3 x4 x5; obtain ⟨D1, f1, rfl⟩ := Kd.V_slice hv1; obtain ⟨D3, f3, rfl⟩ := Kd.V_slice hv3; obtain ⟨D5, f5, rfl⟩ := Kd.V_slice hv5; have L6c := Aside0.mk (blk_lt BK6.out); have V1 := Aside0.mk hv1; have V3 := Aside0.mk hv3; have V5 := Aside0.mk hv5; have N6 := Aside0.mk (blk_below BK6.out hb); have HB2 := Aside0.mk hb; clear BK5 BK6 hb hv1 hv3 hv5; have BK6 := N6; clear N6; have hs0 : w17.cell? ⟨gb6, 0, none⟩ = some (.bool false) := (blk_cell BK6.out 0).trans rfl; have hf0 := blk_frozen BK6.out 0; have hs1 : w17.cell? ⟨gb6, 1, none⟩ = some (.slice none 0 0) := (blk_cell BK6.out 1).trans rfl; have hf1 := blk_frozen BK6.out 1; have hs2 : w17.cell? ⟨gb6, 2, none⟩ = some (.bool false) := (blk_cell BK6.out 2).trans rfl; have hf2 := blk_frozen BK6.out 2; have hs3 : w17.cell? ⟨gb6, 3, none⟩ = some (.slice none 0 0) := (blk_cell BK6.out 3).trans rfl; have hf3 := blk_frozen BK6.out 3; have hs4 : w17.cell? ⟨gb6, 4, none⟩ = some (.bool false) := (blk_cell BK6.out 4).trans rfl; have hf4 := blk_frozen BK6.out 4; have hs5 : w17.cell? ⟨gb6, 5, none⟩ = some (.slice none 0 0) := (blk_cell BK6.out 5).trans rfl; have hf5 := blk_frozen BK6.out 5))
    refine bodyPost_ret (results_cell_row rfl _ _ gb6 65 #[.bool o.1, .slice D1 o.2.length f1, .bool true, .slice D3 a.length f3, .bool true, .slice D5 b.length f5] (0, 0) _ rfl (put6_blk BK6.out) Try.underlying65 rfl (by kernel_rfl)) rfl ?_
    rw [← HRES.out, if_neg (by simp)]
    have hne : ∀ n, gb6 < n → ∀ k, (Q k ∨ n ≤ k) → k ≠ gb6 := fun n hn k hk => by
      have h1 := G_gb6.out
      rcases hk with hk | hk
      · have := (HQ.out k hk).1
        omega
      · omega
    refine ⟨vl3, vp2, _, _, _, rfl, ?_, ?_, ?_, GL3.out, GP.out, ?_, ?_, ?_⟩
    · exact (ST16.out.below HB2.out).put6 BK6.out
    · exact put6_below (below_then B16.out (Nat.le_trans hbs K16.out.1) HB2.out) (Nat.le_trans hbs G_gb6.out)
    · exact put6_kept (K16.out.below HB2.out) (.inr G_gb6.out)
    · refine V_base (Kd.V_mono (Kd.V_bound (put6_V V1.out (hne _ L6c.out))) (fun k hk => ?_))
      have h1 := K16.out.1
      refine ⟨hk.1.imp_right (fun h => by omega), hk.2, fun hm => ?_⟩
      rcases hk.1 with h | h
      · obtain ⟨h3, h4⟩ := HQ.out k h
        exact not_ms_step h4 h3 GL3.out GP.out hm
      · have := ST16.out.ms_lt hm
        omega
    · refine V_base (Kd.V_mono (Kd.V_bound (put6_V V3.out (hne _ L6c.out))) (fun k hk => ?_))
      have h1 := K16.out.1
      refine ⟨hk.1.imp_right (fun h => by omega), hk.2, fun hm => ?_⟩
      rcases hk.1 with h | h
      · obtain ⟨h3, h4⟩ := HQ.out k h
        exact not_ms_step h4 h3 GL3.out GP.out hm
      · have := ST16.out.ms_lt hm
        omega
    · refine V_base (Kd.V_mono (Kd.V_bound (put6_V V5.out (hne _ L6c.out))) (fun k hk => ?_))
      have h1 := K16.out.1
      refine ⟨hk.1.imp_right (fun h => by omega), hk.2, fun hm => ?_⟩
      rcases hk.1 with h | h
      · obtain ⟨h3, h4⟩ := HQ.out k h
        exact not_ms_step h4 h3 GL3.out GP.out hm
      · have := ST16.out.ms_lt hm
        omega
  · skip
    refine pure_ (i := 9) (N := some 65) (v := ?_) (a' := ?_) #[true, true, true, true, true, true, true, true, true, true, false, false, false, false, false, false, false, false, false, false] rfl rfl (any_of HT_.out (by kernel_rfl)) (fun _ _ _ h => h) (Or.inl ⟨by rfl, ?_⟩) ?_ ?_
    rotate_left
    · intro w'
      go_simp
      with_reducible rfl
    rotate_left
    · simp only [Act.put, List.setIfInBounds_toArray, List.set_cons_zero, List.set_cons_succ, i64_w, i32_w]
      rfl
    refine pure_ (i := 10) (N := some 66) (v := ?_) (a' := ?_) #[true, true, true, true, true, true, true, true, true, true, true, false, false, false, false, false, false, false, false, false] rfl rfl (any_of HT_.out (by kernel_rfl)) (fun _ _ _ h => h) (Or.inl ⟨by rfl, ?_⟩) ?_ ?_
    rotate_left
    · intro w'
      go_simp
      with_reducible rfl
    rotate_left
    · simp only [Act.put, List.setIfInBounds_toArray, List.set_cons_zero, List.set_cons_succ, i64_w, i32_w]
      rfl
    refine pure_ (i := 11) (N := some 67) (v := ?_) (a' := ?_) #[true, true, true, true, true, true, true, true, true, true, true, true, false, false, false, false, false, false, false, false] rfl rfl (any_of HT_.out (by kernel_rfl)) (fun _ _ _ h => h) (Or.inl ⟨by rfl, ?_⟩) ?_ ?_
    rotate_left
    · intro w'
      go_simp
      with_reducible rfl
    rotate_left
    · simp only [Act.put, List.setIfInBounds_toArray, List.set_cons_zero, List.set_cons_succ, i64_w, i32_w]
      rfl
    refine pure_ (i := 12) (N := some 68) (v := ?_) (a' := ?_) #[true, true, true, true, true, true, true, true, true, true, true, true, true, false, false, false, false, false, false, false] rfl rfl (any_of HT_.out (by kernel_rfl)) (fun _ _ _ h => h) (Or.inl ⟨by rfl, ?_⟩) ?_ ?_
    rotate_left
    · intro w'
      go_simp
      with_reducible rfl
    rotate_left
    · simp only [Act.put, List.setIfInBounds_toArray, List.set_cons_zero, List.set_cons_succ, i64_w, i32_w]
      rfl
    refine take_ (i := 13) (N := some 69) (v := ?_) (a' := ?_) #[true, true, true, true, true, true, true, true, true, true, true, true, true, true, false, false, false, false, false, false] rfl rfl (take_ofW HT_.out HW_.out (by kernel_rfl)) (fun _ _ _ h => h) (Or.inl ⟨by rfl, ?_⟩) hHeld ?_ ?_
    rotate_left
    · rintro w' ⟨s0, s1, s2⟩
      go_simp
      with_reducible rfl
    rotate_left
    · simp only [Act.put, List.setIfInBounds_toArray, List.set_cons_zero, List.set_cons_succ, i64_w, i32_w]
      rfl
    refine pure_ (i := 14) (N := some 70) (v := ?_) (a' := ?_) #[true, true, true, true, true, true, true, true, true, true, true, true, true, true, true, false, false, false, false, false] rfl rfl (any_of HT_.out (by kernel_rfl)) (fun _ _ _ h => h) (Or.inl ⟨by rfl, ?_⟩) ?_ ?_
    rotate_left
    · intro w'
      go_simp
      with_reducible rfl
    rotate_left
    · simp only [Act.put, List.setIfInBounds_toArray, List.set_cons_zero, List.set_cons_succ, i64_w, i32_w]
      rfl
    refine pure_ (i := 15) (N := some 71) (v := ?_) (a' := ?_) #[true, true, true, true, true, true, true, true, true, true, true, true, true, true, true, true, false, false, false, false] rfl rfl (any_of HT_.out (by kernel_rfl)) (fun _ _ _ h => h) (Or.inl ⟨by rfl, ?_⟩) ?_ ?_
    rotate_left
    · intro w'
      go_simp
      with_reducible rfl
    rotate_left
    · simp only [Act.put, List.setIfInBounds_toArray, List.set_cons_zero, List.set_cons_succ, i64_w, i32_w]
      rfl
    refine pure_ (i := 16) (N := some 72) (v := ?_) (a' := ?_) #[true, true, true, true, true, true, true, true, true, true, true, true, true, true, true, true, true, false, false, false] rfl rfl (any_of HT_.out (by kernel_rfl)) (fun _ _ _ h => h) (Or.inl ⟨by rfl, ?_⟩) ?_ ?_
    rotate_left
    · intro w'
      go_simp
      with_reducible rfl
    rotate_left
    · simp only [Act.put, List.setIfInBounds_toArray, List.set_cons_zero, List.set_cons_succ, i64_w, i32_w]
      rfl
    refine take_ (i := 17) (N := some 73) (v := ?_) (a' := ?_) #[true, true, true, true, true, true, true, true, true, true, true, true, true, true, true, true, true, true, false, false] rfl rfl (take_ofW HT_.out HW_.out (by kernel_rfl)) (fun _ _ _ h => h) (Or.inl ⟨by rfl, ?_⟩) hHeld ?_ ?_
    rotate_left
    · rintro w' ⟨s0, s1, s2⟩
      go_simp
      with_reducible rfl
    rotate_left
    · simp only [Act.put, List.setIfInBounds_toArray, List.set_cons_zero, List.set_cons_succ, i64_w, i32_w]
      rfl
    refine one_ (i := 18) (N := some 74) #[true, true, true, true, true, true, true, true, true, true, true, true, true, true, true, true, true, true, true, false] rfl rfl (one_of HT_.out (by kernel_rfl)) (by decide) (fun K hK => ?_)
    refine goes_ Try.func32 (by kernel_rfl) rfl #[.slice As s.length cs, .int .i64 d, .slice A5 er.1.2.2.length c5] (by rfl) rfl rfl (by (try simp only [List.map_toArray, List.map_cons, List.map_nil]); first | done | rfl) ?_
    refine (schema_Level.calls As cs s d A5 c5 er.1.2.2 r2 _ (Kd.F_now (Kd.F_kept SF.out EIc.out.kp (fun k hk => (HQ.out k hk).2))) hsc (Kd.V_reads' EIc.out.v5).2.2 (Kd.V_reads' EIc.out.v5).2.1 HR2.out).mono ?_
    rintro e w15 ⟨rfl, hb⟩
    refine ⟨_, rfl, ?_⟩
    have NE := Aside0.mk (EIc.out.below hbs hb)
    clear EIc hb HR2
    have EIc := NE
    clear NE
    refine hK.out _ _ ⟨(blk_cell EIc.out.st.blk 0).trans rfl, (blk_cell EIc.out.b8 3).trans rfl, (blk_cell EIc.out.b8 5).trans rfl⟩ (fun hHeld => ?_)
    clear hK K
    refine norm_ (a' := ?_) ?_ ?_
    rotate_left
    · show Act.put _ (some 74) _ = _
      simp only [Act.put, List.setIfInBounds_toArray, List.set_cons_zero, List.set_cons_succ, i64_w, i32_w]
      rfl
    cases r2
    · skip
      refine pure_ (i := 19) (N := some 75) (v := ?_) (a' := ?_) #[true, true, true, true, true, true, true, true, true, true, true, true, true, true, true, true, true, true, true, true] rfl rfl (any_of HT_.out (by kernel_rfl)) (fun _ _ _ h => h) (Or.inl ⟨by rfl, ?_⟩) ?_ ?_
      rotate_left
      · intro w'
        go_simp
        with_reducible rfl
      rotate_left
      · simp only [Act.put, List.setIfInBounds_toArray, List.set_cons_zero, List.set_cons_succ, i64_w, i32_w]
        rfl
      obtain ⟨Al2, cl2, hvl2⟩ := Kd.R_slice EIc.out.st.hl
      subst hvl2
      have hcl2 := (Kd.R_reads' EIc.out.st.hl).2.1
      rw [List.length_append] at hcl2
      have HWP := Aside0.mk (show wrap64 (l.length : Int) = (l.length : Int) from wrap_nat (by omega))
      have z1 : w15.cell? ⟨gm, 1, none⟩ = some (.slice Al2 (l ++ er.2).length cl2) := (blk_cell EIc.out.st.blk 1).trans rfl
      have hfz := blk_frozen EIc.out.st.blk 1
      have hown : (Value.slice Al2 l.length cl2).ownBlock = (Value.slice Al2 (l ++ er.2).length cl2).ownBlock := by cases Al2 <;> rfl
      have htk : (l ++ er.2).take l.length = l := by simp
      have hRl : Kd.R k38 38 w15 base (fun k => some k ≠ vp2.ownBlock) (.slice Al2 l.length cl2) l := by
        have := Kd.R_take (m := l.length) EIc.out.st.hl (by simp)
        rwa [htk] at this
      have hgm : w15.heap[gm]? = some (.cells #[.slice As s.length cs, .slice Al2 (l ++ er.2).length cl2, vp2] 63 (0, 0)) := EIc.out.st.blk
      have ST13 := Aside0.mk (show MSt (w15.setCell ⟨gm, 1, none⟩ (.slice Al2 l.length cl2)) gm base As s.length cs (.slice Al2 l.length cl2) vp2 l p from
        ⟨blk_put (cs := #[.slice As s.length cs, .slice Al2 (l ++ er.2).length cl2, vp2]) EIc.out.st.blk 1 _ rfl, Kd.R_mono (Kd.R_far (p := ⟨gm, 1, none⟩) (Kd.R_types hRl EIc.out.st.blk (by decide)) (fun _ hk => hk.2) _) (fun _ hk => hk.1), Kd.R_mono (Kd.R_far (p := ⟨gm, 1, none⟩) (Kd.R_types EIc.out.st.hp EIc.out.st.blk (by decide)) (fun _ hk => hk.2) _) (fun _ _ => trivial), ST.out.hb⟩)
      have KP13 := Aside0.mk (Kept.setCell (p := ⟨gm, 1, none⟩) EIc.out.kp (.inl (.inl rfl)) (.slice Al2 l.length cl2))
      have BB13 := Aside0.mk (Below.setCell EIc.out.bel ST.out.hb (p := ⟨gm, 1, none⟩) (.slice Al2 l.length cl2))
      have GL13 := Aside0.mk (show Gr w (.slice Al l.length cl) (.slice Al2 l.length cl2) from by unfold Gr; rw [hown]; exact GL.out)
      have B513 := Aside0.mk (blk_far EIc.out.b5 (p := ⟨gm, 1, none⟩) (blk_ne EIc.out.b5 hgm (by decide)) (.slice Al2 l.length cl2))
      have B613 := Aside0.mk (blk_far EIc.out.b6 (p := ⟨gm, 1, none⟩) (blk_ne EIc.out.b6 hgm (by decide)) (.slice Al2 l.length cl2))
      have N513 := Aside0.mk (not_ms ST13.out B513.out (by decide) (by decide) (by decide))
      have N613 := Aside0.mk (not_ms ST13.out B613.out (by decide) (by decide) (by decide))
      have SB := Aside0.mk (show base ≤ (w15.setCell ⟨gm, 1, none⟩ (.slice Al2 l.length cl2)).heap.size from Nat.le_trans hbs KP13.out.1)
      clear EIc hown htk hRl hgm hHeld
      refine done_ (done_of HT_.out (by kernel_rfl)) ?_
      go_wp2_with (first
        | (go_at_call 29; (refine (conflict_calls gm base As s.length cs (.slice Al2 l.length cl2) vp2 l p 2 _ ST13.out (by omega) (by omega) SB.out).mono ?_); rintro e_ w16 ⟨rfl, vl3, hst3, hbb, hkp, hgr⟩; have K16 := Aside0.mk (KP13.out.then_ hkp (fun k hk => hk.elim (fun e => .inl (.inl e)) (fun e => GL13.out.elim (fun g => .inl (.inr (.inl (e.trans g)))) (fun ⟨q, g1, g2⟩ => .inr (by rw [g1] at e; injection e with e; omega))))); have B16 := Aside0.mk (Below.trans BB13.out hbb); have ST16 := Aside0.mk hst3; have GL3 := Aside0.mk (Gr.trans GL13.out KP13.out.1 hgr); have BK5 := Aside0.mk (blk_kept B513.out hkp (fun h => N513.out (h.imp_right Or.inl))); have BK6 := Aside0.mk (blk_kept B613.out hkp (fun h => N613.out (h.imp_right Or.inl))); clear z1 hfz hst3 hbb hkp hgr ST13 KP13 GL13 BB13 B513 B613 N513 N613; have x0 : w16.cell? ⟨gb5, 0, none⟩ = some (.bool o.1) := (blk_cell BK5.out 0).trans rfl; have x1 : w16.cell? ⟨gb5, 1, none⟩ = some (.slice Ao o.2.length co) := (blk_cell BK5.out 1).trans rfl; have x2 : w16.cell? ⟨gb5, 2, none⟩ = some (.bool true) := (blk_cell BK5.out 2).trans rfl; have x3 : w16.cell? ⟨gb5, 3, none⟩ = some (.slice Aa a.length ca) := (blk_cell BK5.out 3).trans rfl; have x4 : w16.cell? ⟨gb5, 4, none⟩ = some (.bool true) := (blk_cell BK5.out 4).trans rfl; have x5 : w16.cell? ⟨gb5, 5, none⟩ = some (.slice Ab b.length cb) := (blk_cell BK5.out 5).trans rfl)
        | (go_at_call 30; (refine (stay_c (by omega) HXO HXA HXB _ (Kd.V_kept VO.out K16.out (fun k hk => (HQ.out k hk).2)) (Kd.V_kept VA.out K16.out (fun k hk => (HQ.out k hk).2)) (Kd.V_kept VB.out K16.out (fun k hk => (HQ.out k hk).2))).mono ?_); rintro e_ w17 ⟨v1, v3, v5, rfl, hv1, hv3, hv5, hb⟩; clear x0 x1 x2 x3 x4 x5; obtain ⟨D1, f1, rfl⟩ := Kd.V_slice hv1; obtain ⟨D3, f3, rfl⟩ := Kd.V_slice hv3; obtain ⟨D5, f5, rfl⟩ := Kd.V_slice hv5; have L6c := Aside0.mk (blk_lt BK6.out); have V1 := Aside0.mk hv1; have V3 := Aside0.mk hv3; have V5 := Aside0.mk hv5; have N6 := Aside0.mk (blk_below BK6.out hb); have HB2 := Aside0.mk hb; clear BK5 BK6 hb hv1 hv3 hv5; have BK6 := N6; clear N6; have hs0 : w17.cell? ⟨gb6, 0, none⟩ = some (.bool false) := (blk_cell BK6.out 0).trans rfl; have hf0 := blk_frozen BK6.out 0; have hs1 : w17.cell? ⟨gb6, 1, none⟩ = some (.slice none 0 0) := (blk_cell BK6.out 1).trans rfl; have hf1 := blk_frozen BK6.out 1; have hs2 : w17.cell? ⟨gb6, 2, none⟩ = some (.bool false) := (blk_cell BK6.out 2).trans rfl; have hf2 := blk_frozen BK6.out 2; have hs3 : w17.cell? ⟨gb6, 3, none⟩ = some (.slice none 0 0) := (blk_cell BK6.out 3).trans rfl; have hf3 := blk_frozen BK6.out 3; have hs4 : w17.cell? ⟨gb6, 4, none⟩ = some (.bool false) := (blk_cell BK6.out 4).trans rfl; have hf4 := blk_frozen BK6.out 4; have hs5 : w17.cell? ⟨gb6, 5, none⟩ = some (.slice none 0 0) := (blk_cell BK6.out 5).trans rfl; have hf5 := blk_frozen BK6.out 5))
      refine bodyPost_ret (results_cell_row rfl _ _ gb6 65 #[.bool o.1, .slice D1 o.2.length f1, .bool true, .slice D3 a.length f3, .bool true, .slice D5 b.length f5] (0, 0) _ rfl (put6_blk BK6.out) Try.underlying65 rfl (by kernel_rfl)) rfl ?_
      rw [← HRES.out, if_neg (by simp)]
      have hne : ∀ n, gb6 < n → ∀ k, (Q k ∨ n ≤ k) → k ≠ gb6 := fun n hn k hk => by
        have h1 := G_gb6.out
        rcases hk with hk | hk
        · have := (HQ.out k hk).1
          omega
        · omega
      refine ⟨vl3, vp2, _, _, _, rfl, ?_, ?_, ?_, GL3.out, GP.out, ?_, ?_, ?_⟩
      · exact (ST16.out.below HB2.out).put6 BK6.out
      · exact put6_below (below_then B16.out (Nat.le_trans hbs K16.out.1) HB2.out) (Nat.le_trans hbs G_gb6.out)
      · exact put6_kept (K16.out.below HB2.out) (.inr G_gb6.out)
      · refine V_base (Kd.V_mono (Kd.V_bound (put6_V V1.out (hne _ L6c.out))) (fun k hk => ?_))
        have h1 := K16.out.1
        refine ⟨hk.1.imp_right (fun h => by omega), hk.2, fun hm => ?_⟩
        rcases hk.1 with h | h
        · obtain ⟨h3, h4⟩ := HQ.out k h
          exact not_ms_step h4 h3 GL3.out GP.out hm
        · have := ST16.out.ms_lt hm
          omega
      · refine V_base (Kd.V_mono (Kd.V_bound (put6_V V3.out (hne _ L6c.out))) (fun k hk => ?_))
        have h1 := K16.out.1
        refine ⟨hk.1.imp_right (fun h => by omega), hk.2, fun hm => ?_⟩
        rcases hk.1 with h | h
        · obtain ⟨h3, h4⟩ := HQ.out k h
          exact not_ms_step h4 h3 GL3.out GP.out hm
        · have := ST16.out.ms_lt hm
          omega
      · refine V_base (Kd.V_mono (Kd.V_bound (put6_V V5.out (hne _ L6c.out))) (fun k hk => ?_))
        have h1 := K16.out.1
        refine ⟨hk.1.imp_right (fun h => by omega), hk.2, fun hm => ?_⟩
        rcases hk.1 with h | h
        · obtain ⟨h3, h4⟩ := HQ.out k h
          exact not_ms_step h4 h3 GL3.out GP.out hm
        · have := ST16.out.ms_lt hm
          omega
    · skip
      refine pure_ (i := 19) (N := some 75) (v := ?_) (a' := ?_) #[true, true, true, true, true, true, true, true, true, true, true, true, true, true, true, true, true, true, true, true] rfl rfl (any_of HT_.out (by kernel_rfl)) (fun _ _ _ h => h) (Or.inl ⟨by rfl, ?_⟩) ?_ ?_
      rotate_left
      · intro w'
        go_simp
        with_reducible rfl
      rotate_left
      · simp only [Act.put, List.setIfInBounds_toArray, List.set_cons_zero, List.set_cons_succ, i64_w, i32_w]
        rfl
      have y0 : w15.cell? ⟨gb8, 0, none⟩ = some (.bool true) := (blk_cell EIc.out.b8 0).trans rfl
      have hs0 : w15.cell? ⟨gb6, 0, none⟩ = some (.bool false) := (blk_cell EIc.out.b6 0).trans rfl
      have hf0 := blk_frozen EIc.out.b6 0
      have y1 : w15.cell? ⟨gb8, 1, none⟩ = some (.slice A1 er.1.1.length c1) := (blk_cell EIc.out.b8 1).trans rfl
      have hs1 : w15.cell? ⟨gb6, 1, none⟩ = some (.slice none 0 0) := (blk_cell EIc.out.b6 1).trans rfl
      have hf1 := blk_frozen EIc.out.b6 1
      have y2 : w15.cell? ⟨gb8, 2, none⟩ = some (.bool true) := (blk_cell EIc.out.b8 2).trans rfl
      have hs2 : w15.cell? ⟨gb6, 2, none⟩ = some (.bool false) := (blk_cell EIc.out.b6 2).trans rfl
      have hf2 := blk_frozen EIc.out.b6 2
      have y3 : w15.cell? ⟨gb8, 3, none⟩ = some (.slice A3 er.1.2.1.length c3) := (blk_cell EIc.out.b8 3).trans rfl
      have hs3 : w15.cell? ⟨gb6, 3, none⟩ = some (.slice none 0 0) := (blk_cell EIc.out.b6 3).trans rfl
      have hf3 := blk_frozen EIc.out.b6 3
      have y4 : w15.cell? ⟨gb8, 4, none⟩ = some (.bool true) := (blk_cell EIc.out.b8 4).trans rfl
      have hs4 : w15.cell? ⟨gb6, 4, none⟩ = some (.bool false) := (blk_cell EIc.out.b6 4).trans rfl
      have hf4 := blk_frozen EIc.out.b6 4
      have y5 : w15.cell? ⟨gb8, 5, none⟩ = some (.slice A5 er.1.2.2.length c5) := (blk_cell EIc.out.b8 5).trans rfl
      have hs5 : w15.cell? ⟨gb6, 5, none⟩ = some (.slice none 0 0) := (blk_cell EIc.out.b6 5).trans rfl
      have hf5 := blk_frozen EIc.out.b6 5
      refine done_ (done_of HT_.out (by kernel_rfl)) ?_
      go_wp2
      refine bodyPost_ret (results_cell_row rfl _ _ gb6 65 #[.bool true, .slice A1 er.1.1.length c1, .bool true, .slice A3 er.1.2.1.length c3, .bool true, .slice A5 er.1.2.2.length c5] (0, 0) _ rfl (put6_blk EIc.out.b6) Try.underlying65 rfl (by kernel_rfl)) rfl ?_
      rw [← HRES.out, if_pos (by rfl)]
      refine ⟨vl2, vp2, _, _, _, rfl, EIc.out.st.put6 EIc.out.b6, put6_below EIc.out.bel (Nat.le_trans hbs G_gb6.out), put6_kept EIc.out.kp (.inr G_gb6.out), GL.out, GP.out, ?_, ?_, ?_⟩
      · exact V_base (Kd.V_mono (Kd.V_bound (put6_V EIc.out.v1 (fun k hk => hk.2))) (fun k hk => ⟨hk.1.1.1, hk.2, hk.1.1.2⟩))
      · exact V_base (Kd.V_mono (Kd.V_bound (put6_V EIc.out.v3 (fun k hk => hk.2))) (fun k hk => ⟨hk.1.1.1, hk.2, hk.1.1.2⟩))
      · exact V_base (Kd.V_mono (Kd.V_bound (put6_V EIc.out.v5 (fun k hk => hk.2))) (fun k hk => ⟨hk.1.1.1, hk.2, hk.1.1.2⟩))
end Go.Proofs.Ytainbaehfdhmbaa.PX
set_option linter.unusedVariables false
set_option linter.unusedSimpArgs false
namespace Go.Proofs.Ytainbaehfdhmbaa.PX
open Go.RowKit Go.Proofs.YtainbaehfdhmbaaW.PrintWords Go.Proofs.YtainbaehfdhmbaaW.PrintLast Go.Proofs.YtainbaehfdhmbaaW.PrintMore Go.Proofs.Ytainbaehfdhmbaa Go.Shelf
theorem merge_spec {wd : Nat} (hw1 : 1 ≤ wd) (k : Nat) : MergeSpec wd k := by
  induction k with
  | zero =>
    intro w gm base As cs s vl vp l p o a b vo va vb Q d h
    by_cases h0 : sameO a b = true
    · rw [show mergeM s 0 d p o a b = ((a, a, a), []) from by rw [mergeM]; simp only [h0, Bool.true_or, if_true]]
      exact merge_q1 d h h0
    have h0 : sameO a b = false := by simpa using h0
    by_cases h1 : sameO b o = true
    · rw [show mergeM s 0 d p o a b = ((a, a, a), []) from by rw [mergeM]; simp only [h0, h1, Bool.or_true, if_true]]
      exact merge_q2 d h h0 h1
    have h1 : sameO b o = false := by simpa using h1
    by_cases h2 : sameO a o = true
    · rw [show mergeM s 0 d p o a b = ((b, b, b), []) from by rw [mergeM]; simp only [h0, h1, h2, Bool.or_self, Bool.false_eq_true, if_true, if_false]]
      exact merge_q3 d h h0 h1 h2
    have h2 : sameO a o = false := by simpa using h2
    rw [show mergeM s 0 d p o a b = ((o, a, b), [⟨p, 1⟩]) from by rw [mergeM]; simp only [h0, h1, h2, Bool.or_self, Bool.false_eq_true, if_false]]
    obtain ⟨a1, a⟩ := a
    obtain ⟨b1, b⟩ := b
    cases a1
    · exact merge_q4 d h h0 h1 h2
    cases b1
    · exact merge_q5 d h h0 h1 h2
    exfalso
    have ea : a = [] := h.oa.1
    have eb : b = [] := h.ob.1
    subst ea
    subst eb
    revert h0
    simp [sameO, eqT]
  | succ k ih =>
    have HE : EdgesSpec wd k := fun d h => edges_calls ih hw1 d h
    intro w gm base As cs s vl vp l p o a b vo va vb Q d h
    by_cases h0 : sameO a b = true
    · rw [show mergeM s (k + 1) d p o a b = ((a, a, a), []) from by rw [mergeM]; simp only [h0, Bool.true_or, if_true]]
      exact merge_q1 d h h0
    have h0 : sameO a b = false := by simpa using h0
    by_cases h1 : sameO b o = true
    · rw [show mergeM s (k + 1) d p o a b = ((a, a, a), []) from by rw [mergeM]; simp only [h0, h1, Bool.or_true, if_true]]
      exact merge_q2 d h h0 h1
    have h1 : sameO b o = false := by simpa using h1
    by_cases h2 : sameO a o = true
    · rw [show mergeM s (k + 1) d p o a b = ((b, b, b), []) from by rw [mergeM]; simp only [h0, h1, h2, Bool.or_self, Bool.false_eq_true, if_true, if_false]]
      exact merge_q3 d h h0 h1 h2
    have h2 : sameO a o = false := by simpa using h2
    obtain ⟨a1, a⟩ := a
    obtain ⟨b1, b⟩ := b
    cases a1
    · rw [show mergeM s (k + 1) d p o (false, a) (b1, b) = ((o, (false, a), (b1, b)), [⟨p, 1⟩]) from by rw [mergeM]; simp only [h0, h1, h2, Bool.or_self, Bool.false_eq_true, if_false, Bool.not_false, Bool.true_or, if_true]]
      exact merge_q4 d h h0 h1 h2
    cases b1
    · rw [show mergeM s (k + 1) d p o (true, a) (false, b) = ((o, (true, a), (false, b)), [⟨p, 1⟩]) from by rw [mergeM]; simp only [h0, h1, h2, Bool.or_self, Bool.false_eq_true, if_false, Bool.not_false, Bool.or_true, if_true]]
      exact merge_q5 d h h0 h1 h2
    exact merge_q6 HE d h h0 h1 h2
end Go.Proofs.Ytainbaehfdhmbaa.PX
namespace Go.Proofs.Ytainbaehfdhmbaa.PX
open Go.RowKit Go.Proofs.YtainbaehfdhmbaaW.PrintWords Go.Proofs.YtainbaehfdhmbaaW.PrintLast Go.Proofs.YtainbaehfdhmbaaW.PrintMore
attribute [local go_sem] max2_int min2_int max_two min_two max_three min_three max_four min_four   
set_option linter.unusedVariables false
set_option linter.unusedSimpArgs false
def api_Conflict.f (l0:List (S38)):Option ((List (S38))):=(some (([]:List (S38)):List (S38))).bind fun y628=>(if y628.length+l0.length < 4398046511104 then (some (y628 ++ l0)) else (none))
set_option maxHeartbeats 8000000 in
set_option maxRecDepth 100000 in
theorem api_Conflict.calls (P0_:Nat→Prop) (A0:Option Addr) (c0:Nat) (l0:List (S38)) (r:List (S38)) (w:World) (hs0:Kd.V k38 38 w w.heap.size (fun k_=>P0_ k_) (.slice A0 l0.length c0) l0) (h:api_Conflict.f l0=some r) :
  Calls Try.prog 22 #[.slice A0 l0.length c0] w fun e w'=>∃ v0_:Value,e=.returned (v0_)∧Kd.N k38 38 w' w.heap.size (fun k_=>(P0_ k_∨w.heap.size≤k_)) v0_ r∧Below w.heap.size w w':=by
 have q22:∀ (w:World) (a:Option Addr) (n c n' c':Nat),(binOp .eql 27 (.slice a n c) (.slice none n' c')).run Try.prog w=.ok (.bool a.isNone) w:=fun w a n c n' c'=>Lib.run_eql_slice_nil w _ _ a n c n' c' Try.underlying27
 by_cases hA0:A0=none
 ·have hl0:l0 = []:=by
   cases l0 with
   | nil=>rfl
   | cons x t_ =>
    obtain ⟨ad,e,_⟩:=((Kd.V_reads' hs0).2.2).2.2 (by simp)
    exact absurd (hA0.symm.trans e) (by simp)
  subst hA0 hl0
  have hr_:r = []:=by simpa [api_Conflict.f] using h.symm
  subst hr_
  clear h
  go_enter Try.func22,Try.ntmps22
  go_wp2
  go_ret
  exact ⟨.slice none 0 0,rfl,by first|exact Kd.R_nil _ _ _ _ _|exact Kd.N_nil _ _ _ _ _|exact Kd.S_nil _ _ _ _ _,Below.refl _ _⟩
 have hA1:A0.isNone=false:=by cases A0 with
  | none=>exact absurd rfl hA0
  | some a=>rfl
 clear hA0
 have HO0:=Aside0.mk (show Kd.V k38 38 w w.heap.size (fun k_=>(P0_ k_∨w.heap.size≤k_)) (.slice A0 l0.length c0) l0 from Kd.V_mono hs0 (fun k_ hk=>.inl hk))
 have HB:=Aside0.mk (Below.refl w.heap.size w)
 have H:((some (([]:List (S38)):List (S38))).bind fun y628=>(if y628.length+l0.length < 4398046511104 then (some (y628 ++ l0)) else (none)))=some r:=h
 clear h
 obtain ⟨y628,hy628⟩:∃ y_:List (S38),y_=(([]:List (S38))):=⟨_,rfl⟩
 replace H:(if y628.length+l0.length < 4398046511104 then (some (y628 ++ l0)) else (none))=some r:=by first|(rw [hy628];with_reducible exact H)|(have H2_:=(Option.bind_some _ _).symm.trans H;rw [hy628];with_reducible exact H2_)|(have H2_:=(Option.bind_some _ _).symm.trans H;with_reducible exact H2_)|with_reducible exact H|(rw [hy628];exact H)|exact H
 have Ny628:=Aside0.mk hy628
 clear hy628
 by_cases c2:y628.length+l0.length < 4398046511104
 ·rw [if_pos c2] at H
  have LMc2:=Aside0.mk c2
  clear c2
  obtain ⟨y631,hy631⟩:∃ y_:List (S38),y_=(y628 ++ l0):=⟨_,rfl⟩
  replace H:(some y631)=some r:=by first|(rw [hy631];with_reducible exact H)|(have H2_:=(Option.bind_some _ _).symm.trans H;rw [hy631];with_reducible exact H2_)|(have H2_:=(Option.bind_some _ _).symm.trans H;with_reducible exact H2_)|with_reducible exact H|(rw [hy631];exact H)|exact H
  have Ny631:=Aside0.mk hy631
  clear hy631
  obtain rfl:=Option.some.inj H
  go_enter Try.func22,Try.ntmps22
  go_wp2_with (first|((with_reducible refine gate_dst (N:=5) rfl ?_);refine Kd.N_lit k38 _ 38 ?hg (N':=5) ?hd (xs:=([]:List (S38))) (inner:=[]) (ok:=(fun k_=>(P0_ k_∨w.heap.size≤k_))) (okp:=(fun k_=>(P0_ k_∨w.heap.size≤k_))) ?hr ?hp (fun _ hk=>hk) ((show ∀ k_,w.heap.size≤k_→(fun k_=>(P0_ k_∨w.heap.size≤k_)) k_ from fun k_ hk=>(.inr (Nat.le_trans (below_size (by repeat (first|(with_reducible first|exact HB.out|apply bA_|apply bN_|apply bD_)|exact HB.out))) hk))) _ (Nat.le_refl _)) (Below.refl _ _) (Nat.le_refl _) (by simp) ?_;(case hd=>rfl);(case hg=>rfl);(case hr=>first|(go_simp;done)|(go_simp;rfl));(case hp=>exact (Reps.none _ _));intro v629 w3 ho4 hb hg_ hnew_;clear hg_ hnew_;(first|rw [← Ny628.out] at ho4|(simp only [Int.reduceToNat] at ho4;rw [← Ny628.out] at ho4));have n0_:=Aside0.mk (Kd.V_elder' (by (with_reducible repeat (first|apply vA_|apply vN_|apply vD_));exact HO0.out) (Kd.N_base ho4) hb);have n1_:=Aside0.mk (Kd.N_lower ho4 (below_size (by repeat (first|(with_reducible first|exact HB.out|apply bA_|apply bN_|apply bD_)|exact HB.out))));have n2_:=Aside0.mk (below_step (by repeat (first|(with_reducible first|exact HB.out|apply bA_|apply bN_|apply bD_)|exact HB.out)) hb);clear HO0;clear HB;have HO0:=n0_;have HO630:=n1_;have HB:=n2_;clear n0_ n1_ n2_;clear hb ho4)|((with_reducible refine gate_builtin (b:=.append) (xs:=#[.tmp 5,.tmp 6]) rfl ?_);at_builtin;refine Kd.N_append_rows k38 (w0:=w) w.heap.size rfl (.tmp 5) (.tmp 6) 27 38 (.agg #[(.slice none 0 0),(.int .i64 0)]) 32 rfl Try.underlying27 info38 rfl (by decide) (by omega) v629 y628 l0 _ _ _ (fun k_=>(P0_ k_∨w.heap.size≤k_)) (fun k_=>((fun k_=>(P0_ k_∨w.heap.size≤k_))) k_∧some k_≠(v629:Value).ownBlock) rfl rfl ?aO ?aR (fun _ hk=>hk) ?aF ?aB ?aS ?aL ?_;(case aR=>exact (by (with_reducible repeat (first|apply Kd.F_alloc|apply Kd.F_drewN|apply Kd.F_drew));exact Kd.V_F (Kd.V_mono (ok':=(fun k_=>((fun k_=>(P0_ k_∨w.heap.size≤k_))) k_∧some k_≠(v629:Value).ownBlock)) (HO0.out) (fun k_ hk=>⟨hk.1,hk.2⟩))));(case aB=>exact (by repeat (first|(with_reducible first|exact HB.out|apply bA_|apply bN_|apply bD_)|exact HB.out)));(case aF=>exact (fun k_ hk=>(.inr (Nat.le_trans (below_size (by repeat (first|(with_reducible first|exact HB.out|apply bA_|apply bN_|apply bD_)|exact HB.out))) hk))));(case aO=>exact (by (with_reducible repeat (first|apply nA_|apply nN_|apply nD_));exact HO630.out));(case aS=>exact (below_size (by repeat (first|(with_reducible first|exact HB.out|apply bA_|apply bN_|apply bD_)|exact HB.out))));(case aL=>have:=LMc2.out;omega);intro v632 w5 ho hb hg hat;rw [← Ny631.out] at ho;have n0_:=Aside0.mk (Kd.V_afterv (ok:=(fun k_=>(P0_ k_∨w.heap.size≤k_))) (by (with_reducible repeat (first|apply vA_|apply vN_|apply vD_));exact HO0.out) hg hat);have n1_:=Aside0.mk (hb);have n2_:=Aside0.mk (ho);clear HO0;clear HB;clear HO630;have HO0:=n0_;have HB:=n1_;have HO633:=n2_;clear n0_ n1_ n2_;clear ho hb hg hat))
  go_ret
  exact ⟨_,by first|rfl|(simp [errW_none,errW_some] <;> rfl)|(simp [*,errW_none,errW_some] <;> rfl),by (with_reducible repeat (first|apply nA_|apply nN_|apply nD_));exact HO633.out,by repeat (first|(with_reducible first|exact HB.out|apply bA_|apply bN_|apply bD_)|exact HB.out)⟩
 ·rw [if_neg c2] at H
  exact absurd H (by simp)
end Go.Proofs.Ytainbaehfdhmbaa.PX
set_option linter.unusedVariables false
set_option linter.unusedSimpArgs false
namespace Go.Proofs.Ytainbaehfdhmbaa.PX
open Go.RowKit Go.Proofs.YtainbaehfdhmbaaW.PrintWords Go.Proofs.YtainbaehfdhmbaaW.PrintLast Go.Proofs.YtainbaehfdhmbaaW.PrintMore Go.Proofs.Ytainbaehfdhmbaa Go.Shelf
instance sortedDec (t : Tr) : Decidable (Sorted t) := by unfold Sorted; infer_instance
def okDec (W : Nat) : (d : Nat) → (t : Tr) → Decidable (Ok W d t)
  | 0, [] => .isTrue rfl
  | 0, _ :: _ => .isFalse (fun h => by cases h)
  | d + 1, t =>
    have : ∀ x : S51, Decidable (Ok W d x.f1) := fun x => okDec W d x.f1
    (inferInstance : Decidable (t.length ≤ W ∧ Sorted t ∧ ∀ x ∈ t, Ok W d x.f1))
instance (W d : Nat) (t : Tr) : Decidable (Ok W d t) := okDec W d t
def nilDec (t : Tr) : Decidable (t = []) :=
  match t with
  | [] => .isTrue rfl
  | _ :: _ => .isFalse (fun h => by cases h)
def emptyDec (b : Bool) (t : Tr) : Decidable (b = false → t = []) :=
  match b, nilDec t with
  | true, _ => .isTrue (fun h => by cases h)
  | false, .isTrue h => .isTrue (fun _ => h)
  | false, .isFalse h => .isFalse (fun k => h (k rfl))
instance (W d : Nat) (x : OT) : Decidable (OOk W d x) :=
  have := emptyDec x.1 x.2
  (inferInstance : Decidable (Ok W d x.2 ∧ (x.1 = false → x.2 = [])))
def merge_Merge.f (l0 : List S59) (a1_0 : Bool) (l1_1 : List S51) (a2_0 : Bool) (l2_1 : List S51) (a3_0 : Bool) (l3_1 : List S51) : Option (Bool × List S51 × Bool × List S51 × Bool × List S51 × List S38) :=
  if ScOk l0 ∧ OOk 10 5 (a1_0, l1_1) ∧ OOk 10 5 (a2_0, l2_1) ∧ OOk 10 5 (a3_0, l3_1) then
    some ((mergeM l0 5 0 [] (a1_0, l1_1) (a2_0, l2_1) (a3_0, l3_1)).1.1.1, (mergeM l0 5 0 [] (a1_0, l1_1) (a2_0, l2_1) (a3_0, l3_1)).1.1.2, (mergeM l0 5 0 [] (a1_0, l1_1) (a2_0, l2_1) (a3_0, l3_1)).1.2.1.1, (mergeM l0 5 0 [] (a1_0, l1_1) (a2_0, l2_1) (a3_0, l3_1)).1.2.1.2, (mergeM l0 5 0 [] (a1_0, l1_1) (a2_0, l2_1) (a3_0, l3_1)).1.2.2.1, (mergeM l0 5 0 [] (a1_0, l1_1) (a2_0, l2_1) (a3_0, l3_1)).1.2.2.2, (mergeM l0 5 0 [] (a1_0, l1_1) (a2_0, l2_1) (a3_0, l3_1)).2)
  else none
theorem clone38_eq (l : List Cf) (h : l.length ≤ 1000000000) : api_Conflict.f l = some l := by
  unfold api_Conflict.f
  rw [Option.bind_some, if_pos (by rw [List.length_nil]; omega)]
  rfl
def mgmT : Bool × List (List Nat × List Nat) := (true, [([], []), ([0], [0]), ([], []), ([2], [2]), ([], []), ([4], [4]), ([], []), ([6], [6]), ([7], [7]), ([8], [8]), ([9], [9]), ([1, 10, 0, 1], [1]), ([3, 11, 0, 1, 2, 3, 11], [3]), ([5, 12, 0, 1, 2, 3, 4, 5, 11, 12], [5]), ([10, 13, 0, 1, 2, 3, 4, 5, 6, 7, 8, 9, 10, 11, 12, 13], [10])])
def mgmB : List Nat := [0, 1, 0, 4, 0, 16, 0, 64, 192, 448, 960, 1987, 4047, 8191, 16383]
theorem mgm_tab : rtab .any (opsOf Try.f8 3) = mgmT := by kernel_rfl
theorem mgm_bits : waitsOk mgmT.2 mgmB = true := by kernel_rfl
set_option maxHeartbeats 8000000 in
set_option maxRecDepth 100000 in
theorem merge_Merge.calls (P0_ : Nat → Prop) (A0 : Option Addr) (c0 : Nat) (l0 : List S59) (a1_0 : Bool) (P1_1_ : Nat → Prop) (A1_1 : Option Addr) (c1_1 : Nat) (l1_1 : List S51) (a2_0 : Bool) (P2_1_ : Nat → Prop) (A2_1 : Option Addr) (c2_1 : Nat) (l2_1 : List S51) (a3_0 : Bool) (P3_1_ : Nat → Prop) (A3_1 : Option Addr) (c3_1 : Nat) (l3_1 : List S51) (r1 : Bool) (r2 : List S51) (r3 : Bool) (r4 : List S51) (r5 : Bool) (r6 : List S51) (r7 : List S38) (w : World) (hs0 : Kd.V k59 59 w w.heap.size (fun k_ => P0_ k_) (.slice A0 l0.length c0) l0) (hs1_1 : Kd.V k51 51 w w.heap.size (fun k_ => P1_1_ k_) (.slice A1_1 l1_1.length c1_1) l1_1) (hs2_1 : Kd.V k51 51 w w.heap.size (fun k_ => P2_1_ k_) (.slice A2_1 l2_1.length c2_1) l2_1) (hs3_1 : Kd.V k51 51 w w.heap.size (fun k_ => P3_1_ k_) (.slice A3_1 l3_1.length c3_1) l3_1) (h : merge_Merge.f l0 a1_0 l1_1 a2_0 l2_1 a3_0 l3_1 = some (r1, r2, r3, r4, r5, r6, r7)) :
    Calls Try.prog 8 #[.slice A0 l0.length c0, .agg #[.bool a1_0, .slice A1_1 l1_1.length c1_1], .agg #[.bool a2_0, .slice A2_1 l2_1.length c2_1], .agg #[.bool a3_0, .slice A3_1 l3_1.length c3_1]] w fun e w' => ∃ v1_ v3_ v5_ v6_ : Value, e = .returned (.tuple #[.agg #[.bool r1, v1_], .agg #[.bool r3, v3_], .agg #[.bool r5, v5_], v6_]) ∧ Kd.V k51 51 w' w.heap.size (fun k_ => ((P0_ k_ ∨ P1_1_ k_ ∨ P2_1_ k_ ∨ P3_1_ k_) ∨ w.heap.size ≤ k_) ∧ some k_ ≠ (v6_ : Value).ownBlock) v1_ r2 ∧ Kd.V k51 51 w' w.heap.size (fun k_ => ((P0_ k_ ∨ P1_1_ k_ ∨ P2_1_ k_ ∨ P3_1_ k_) ∨ w.heap.size ≤ k_) ∧ some k_ ≠ (v6_ : Value).ownBlock) v3_ r4 ∧ Kd.V k51 51 w' w.heap.size (fun k_ => ((P0_ k_ ∨ P1_1_ k_ ∨ P2_1_ k_ ∨ P3_1_ k_) ∨ w.heap.size ≤ k_) ∧ some k_ ≠ (v6_ : Value).ownBlock) v5_ r6 ∧ Kd.N k38 38 w' w.heap.size (fun k_ => ((P0_ k_ ∨ P1_1_ k_ ∨ P2_1_ k_ ∨ P3_1_ k_) ∨ w.heap.size ≤ k_)) v6_ r7 ∧ Below w.heap.size w w' := by
  unfold merge_Merge.f at h
  split at h
  case isFalse => cases h
  rename_i hok
  obtain ⟨hsc, hoo, hoa, hob⟩ := hok
  obtain ⟨rr, hrr⟩ : ∃ r, r = (mergeM l0 5 0 [] (a1_0, l1_1) (a2_0, l2_1) (a3_0, l3_1)) := ⟨_, rfl⟩
  have hrl : rr.2.length ≤ 1000000000 := by
    have := mergeM_len (wd := 10) (by omega) l0 5 0 [] _ _ _ hoo hoa hob
    rw [← hrr] at this
    exact Nat.le_trans this (by decide)
  rw [← hrr] at h
  simp only [Option.some.injEq, Prod.mk.injEq] at h
  obtain ⟨rfl, rfl, rfl, rfl, rfl, rfl, rfl⟩ := h
  have HRR := Aside0.mk hrr
  clear hrr
  have HS := Aside0.mk hs0
  have V1i := Aside0.mk hs1_1
  have V2i := Aside0.mk hs2_1
  have V3i := Aside0.mk hs3_1
  clear hs0 hs1_1 hs2_1 hs3_1
  have hu := Try.underlying65
  have hu2 := Try.underlying26
  have hu3 := Try.underlying63
  have HB := Aside0.mk (Below.refl w.heap.size w)
  go_enter Try.func8, Try.ntmps8
  go_wp2_with (first
    | ((with_reducible refine gate_dst (N := 5) rfl ?_); refine box_event ?hg (N := 5) ?hd (cs := #[.bool a1_0, .slice A1_1 l1_1.length c1_1]) (t := 26) ?hr ?_; (case hd => rfl); (case hg => rfl); (case hr => first | (go_simp; done) | (go_simp; rfl)); intro gb5 hg w5 hbox hb; have G_gb5 := Aside0.mk (show w.heap.size ≤ gb5 from by rw [hg]; exact HB.out.size); have NB := Aside0.mk (below_step HB.out hb); clear HB; have HB := NB; clear NB; have BK5 := Aside0.mk hbox; clear hbox hg hb)
    | ((with_reducible refine gate_dst (N := 6) rfl ?_); refine box_event ?hg (N := 6) ?hd (cs := #[.bool a2_0, .slice A2_1 l2_1.length c2_1]) (t := 26) ?hr ?_; (case hd => rfl); (case hg => rfl); (case hr => first | (go_simp; done) | (go_simp; rfl)); intro gb6 hg w6 hbox hb; have N_BK5 := Aside0.mk (blk_below BK5.out hb); clear BK5; have BK5 := N_BK5; clear N_BK5; have G_gb6 := Aside0.mk (show w.heap.size ≤ gb6 from by rw [hg]; exact HB.out.size); have NB := Aside0.mk (below_step HB.out hb); clear HB; have HB := NB; clear NB; have BK6 := Aside0.mk hbox; clear hbox hg hb)
    | ((with_reducible refine gate_dst (N := 7) rfl ?_); refine box_event ?hg (N := 7) ?hd (cs := #[.bool a3_0, .slice A3_1 l3_1.length c3_1]) (t := 26) ?hr ?_; (case hd => rfl); (case hg => rfl); (case hr => first | (go_simp; done) | (go_simp; rfl)); intro gb7 hg w7 hbox hb; have N_BK5 := Aside0.mk (blk_below BK5.out hb); clear BK5; have BK5 := N_BK5; clear N_BK5; have N_BK6 := Aside0.mk (blk_below BK6.out hb); clear BK6; have BK6 := N_BK6; clear N_BK6; have G_gb7 := Aside0.mk (show w.heap.size ≤ gb7 from by rw [hg]; exact HB.out.size); have NB := Aside0.mk (below_step HB.out hb); clear HB; have HB := NB; clear NB; have BK7 := Aside0.mk hbox; clear hbox hg hb)
    | ((with_reducible refine gate_dst (N := 8) rfl ?_); refine box_event ?hg (N := 8) ?hd (cs := #[.bool false, .slice none 0 0]) (t := 26) ?hr ?_; (case hd => rfl); (case hg => rfl); (case hr => first | (go_simp; done) | (go_simp; rfl)); intro gb8 hg w8 hbox hb; have N_BK5 := Aside0.mk (blk_below BK5.out hb); clear BK5; have BK5 := N_BK5; clear N_BK5; have N_BK6 := Aside0.mk (blk_below BK6.out hb); clear BK6; have BK6 := N_BK6; clear N_BK6; have N_BK7 := Aside0.mk (blk_below BK7.out hb); clear BK7; have BK7 := N_BK7; clear N_BK7; have G_gb8 := Aside0.mk (show w.heap.size ≤ gb8 from by rw [hg]; exact HB.out.size); have NB := Aside0.mk (below_step HB.out hb); clear HB; have HB := NB; clear NB; have BK8 := Aside0.mk hbox; clear hbox hg hb)
    | ((with_reducible refine gate_dst (N := 9) rfl ?_); refine box_event ?hg (N := 9) ?hd (cs := #[.bool false, .slice none 0 0]) (t := 26) ?hr ?_; (case hd => rfl); (case hg => rfl); (case hr => first | (go_simp; done) | (go_simp; rfl)); intro gb9 hg w9 hbox hb; have M_8_9 := Aside0.mk (show gb8 < gb9 from by rw [hg]; exact blk_lt BK8.out); have N_BK5 := Aside0.mk (blk_below BK5.out hb); clear BK5; have BK5 := N_BK5; clear N_BK5; have N_BK6 := Aside0.mk (blk_below BK6.out hb); clear BK6; have BK6 := N_BK6; clear N_BK6; have N_BK7 := Aside0.mk (blk_below BK7.out hb); clear BK7; have BK7 := N_BK7; clear N_BK7; have N_BK8 := Aside0.mk (blk_below BK8.out hb); clear BK8; have BK8 := N_BK8; clear N_BK8; have G_gb9 := Aside0.mk (show w.heap.size ≤ gb9 from by rw [hg]; exact HB.out.size); have NB := Aside0.mk (below_step HB.out hb); clear HB; have HB := NB; clear NB; have BK9 := Aside0.mk hbox; clear hbox hg hb)
    | ((with_reducible refine gate_dst (N := 10) rfl ?_); refine box_event ?hg (N := 10) ?hd (cs := #[.bool false, .slice none 0 0]) (t := 26) ?hr ?_; (case hd => rfl); (case hg => rfl); (case hr => first | (go_simp; done) | (go_simp; rfl)); intro gb10 hg w10 hbox hb; have M_8_10 := Aside0.mk (show gb8 < gb10 from by rw [hg]; exact blk_lt BK8.out); have M_9_10 := Aside0.mk (show gb9 < gb10 from by rw [hg]; exact blk_lt BK9.out); have N_BK5 := Aside0.mk (blk_below BK5.out hb); clear BK5; have BK5 := N_BK5; clear N_BK5; have N_BK6 := Aside0.mk (blk_below BK6.out hb); clear BK6; have BK6 := N_BK6; clear N_BK6; have N_BK7 := Aside0.mk (blk_below BK7.out hb); clear BK7; have BK7 := N_BK7; clear N_BK7; have N_BK8 := Aside0.mk (blk_below BK8.out hb); clear BK8; have BK8 := N_BK8; clear N_BK8; have N_BK9 := Aside0.mk (blk_below BK9.out hb); clear BK9; have BK9 := N_BK9; clear N_BK9; have G_gb10 := Aside0.mk (show w.heap.size ≤ gb10 from by rw [hg]; exact HB.out.size); have NB := Aside0.mk (below_step HB.out hb); clear HB; have HB := NB; clear NB; have BK10 := Aside0.mk hbox; clear hbox hg hb)
    | ((with_reducible refine gate_dst (N := 16) rfl ?_); refine box_event ?hg (N := 16) ?hd (cs := #[.slice A0 l0.length c0, .slice none 0 0, .slice none 0 0]) (t := 63) ?hr ?_; (case hd => rfl); (case hg => rfl); (case hr => first | (go_simp; done) | (go_simp; rfl)); intro gb16 hg w16 hbox hb; have N_BK5 := Aside0.mk (blk_below BK5.out hb); clear BK5; have BK5 := N_BK5; clear N_BK5; have N_BK6 := Aside0.mk (blk_below BK6.out hb); clear BK6; have BK6 := N_BK6; clear N_BK6; have N_BK7 := Aside0.mk (blk_below BK7.out hb); clear BK7; have BK7 := N_BK7; clear N_BK7; have N_BK8 := Aside0.mk (blk_below BK8.out hb); clear BK8; have BK8 := N_BK8; clear N_BK8; have N_BK9 := Aside0.mk (blk_below BK9.out hb); clear BK9; have BK9 := N_BK9; clear N_BK9; have N_BK10 := Aside0.mk (blk_below BK10.out hb); clear BK10; have BK10 := N_BK10; clear N_BK10; have G_gb16 := Aside0.mk (show w.heap.size ≤ gb16 from by rw [hg]; exact HB.out.size); have NB := Aside0.mk (below_step HB.out hb); clear HB; have HB := NB; clear NB; have BK16 := Aside0.mk hbox; clear hbox hg hb; have x5_0 : w16.cell? ⟨gb5, 0, none⟩ = some (.bool a1_0) := (blk_cell BK5.out 0).trans rfl; have x5_1 : w16.cell? ⟨gb5, 1, none⟩ = some (.slice A1_1 l1_1.length c1_1) := (blk_cell BK5.out 1).trans rfl; have x6_0 : w16.cell? ⟨gb6, 0, none⟩ = some (.bool a2_0) := (blk_cell BK6.out 0).trans rfl; have x6_1 : w16.cell? ⟨gb6, 1, none⟩ = some (.slice A2_1 l2_1.length c2_1) := (blk_cell BK6.out 1).trans rfl; have x7_0 : w16.cell? ⟨gb7, 0, none⟩ = some (.bool a3_0) := (blk_cell BK7.out 0).trans rfl; have x7_1 : w16.cell? ⟨gb7, 1, none⟩ = some (.slice A3_1 l3_1.length c3_1) := (blk_cell BK7.out 1).trans rfl)
    | (go_at_call 21; (refine (merge_spec (wd := 10) (by omega) 5 (w := w16) (gm := gb16) (base := w.heap.size) (As := A0) (cs := c0) (s := l0) (vl := .slice none 0 0) (vp := .slice none 0 0) (l := []) (p := []) (o := (a1_0, l1_1)) (a := (a2_0, l2_1)) (b := (a3_0, l3_1)) (vo := .slice A1_1 l1_1.length c1_1) (va := .slice A2_1 l2_1.length c2_1) (vb := .slice A3_1 l3_1.length c3_1) (Q := (fun k_ => (P0_ k_ ∨ P1_1_ k_ ∨ P2_1_ k_ ∨ P3_1_ k_) ∧ k_ < w.heap.size)) 0 ⟨⟨BK16.out, Kd.R_nil _ _ _ _ _, Kd.R_nil _ _ _ _ _, G_gb16.out⟩, HB.out.size, hsc, (Kd.V_reads' HS.out).2.1, Kd.F_below (Kd.F_mono (Kd.F_bound (Kd.V_F HS.out)) (fun k hk => ⟨.inl hk.1, hk.2⟩)) HB.out, V_base (Kd.V_below (Kd.V_mono (ok' := (fun k_ => (P0_ k_ ∨ P1_1_ k_ ∨ P2_1_ k_ ∨ P3_1_ k_) ∧ k_ < w.heap.size)) (Kd.V_bound V1i.out) (fun k hk => ⟨(fun h => .inr (.inl h)) hk.1, hk.2⟩)) HB.out), V_base (Kd.V_below (Kd.V_mono (ok' := (fun k_ => (P0_ k_ ∨ P1_1_ k_ ∨ P2_1_ k_ ∨ P3_1_ k_) ∧ k_ < w.heap.size)) (Kd.V_bound V2i.out) (fun k hk => ⟨(fun h => .inr (.inr (.inl h))) hk.1, hk.2⟩)) HB.out), V_base (Kd.V_below (Kd.V_mono (ok' := (fun k_ => (P0_ k_ ∨ P1_1_ k_ ∨ P2_1_ k_ ∨ P3_1_ k_) ∧ k_ < w.heap.size)) (Kd.V_bound V3i.out) (fun k hk => ⟨(fun h => .inr (.inr (.inr h))) hk.1, hk.2⟩)) HB.out), (fun k hk => ⟨Nat.lt_of_lt_of_le hk.2 HB.out.size, fun hm => by rcases hm with hm | hm | hm; (have h1 := hk.2; have h2 := G_gb16.out; omega); (cases hm); (cases hm)⟩), hoo, hoa, hob, by omega, by decide, by decide⟩).mono ?_); rintro e_ w17 ⟨vl2, vp2, uo, ua, ub, rfl, hst2, hbb, hkk, hg1, hg2, hv1, hv3, hv5⟩; rw [← HRR.out] at hst2 hv1 hv3 hv5 ⊢; rw [List.nil_append] at hst2; clear x5_0 x5_1 x6_0 x6_1 x7_0 x7_1; obtain ⟨A1, c1, rfl⟩ := Kd.V_slice hv1; obtain ⟨A3, c3, rfl⟩ := Kd.V_slice hv3; obtain ⟨A5, c5, rfl⟩ := Kd.V_slice hv5; have MS0 := Aside0.mk (show MSt w16 gb16 w.heap.size A0 l0.length c0 (.slice none 0 0) (.slice none 0 0) [] [] from ⟨BK16.out, Kd.R_nil _ _ _ _ _, Kd.R_nil _ _ _ _ _, G_gb16.out⟩); have N8 := Aside0.mk (blk_kept BK8.out hkk (not_ms MS0.out BK8.out (by decide) (by decide) (by decide))); have N9 := Aside0.mk (blk_kept BK9.out hkk (not_ms MS0.out BK9.out (by decide) (by decide) (by decide))); have N10 := Aside0.mk (blk_kept BK10.out hkk (not_ms MS0.out BK10.out (by decide) (by decide) (by decide))); have M8 := Aside0.mk (blk_lt BK8.out); have M9 := Aside0.mk (blk_lt BK9.out); have M10 := Aside0.mk (blk_lt BK10.out); have L8 := Aside0.mk (blk_lt N8.out); have L9 := Aside0.mk (blk_lt N9.out); have L10 := Aside0.mk (blk_lt N10.out); have ST2 := Aside0.mk hst2; have SZ16 := Aside0.mk HB.out.size; have NB := Aside0.mk (Below.trans HB.out hbb); have V1 := Aside0.mk hv1; have V3 := Aside0.mk hv3; have V5 := Aside0.mk hv5; clear HB BK5 BK6 BK7 BK8 BK9 BK10 BK16 MS0 hst2 hbb hkk hg1 hg2 hv1 hv3 hv5; have HB := NB; have BK8 := N8; have BK9 := N9; have BK10 := N10; clear N8 N9 N10 NB)
    | ((with_reducible refine gate_dst (N := 13) rfl ?_); refine box_event ?hg (N := 13) ?hd (cs := #[.bool false, .slice none 0 0, .bool false, .slice none 0 0, .bool false, .slice none 0 0]) (t := 65) ?hr ?_; (case hd => rfl); (case hg => rfl); (case hr => first | (go_simp; done) | (go_simp; rfl)); intro gb13 hg w18 hbox hb; have N_BK8 := Aside0.mk (blk_below BK8.out hb); clear BK8; have BK8 := N_BK8; clear N_BK8; have N_BK9 := Aside0.mk (blk_below BK9.out hb); clear BK9; have BK9 := N_BK9; clear N_BK9; have N_BK10 := Aside0.mk (blk_below BK10.out hb); clear BK10; have BK10 := N_BK10; clear N_BK10; have G_gb13 := Aside0.mk (show w.heap.size ≤ gb13 from by rw [hg]; exact HB.out.size); have N17 := Aside0.mk (ST2.out.below hb); have NV1 := Aside0.mk (Kd.V_below V1.out hb); have NV3 := Aside0.mk (Kd.V_below V3.out hb); have NV5 := Aside0.mk (Kd.V_below V5.out hb); have G17 := Aside0.mk (show w17.heap.size ≤ gb13 from by rw [hg]; exact Nat.le_refl _); clear ST2 V1 V3 V5; have ST2 := N17; have V1 := NV1; have V3 := NV3; have V5 := NV5; clear N17 NV1 NV3 NV5; have NB := Aside0.mk (below_step HB.out hb); clear HB; have HB := NB; clear NB; have BK13 := Aside0.mk hbox; clear hbox hg hb; have hs0 : w18.cell? ⟨gb13, 0, none⟩ = some (.bool false) := (blk_cell BK13.out 0).trans rfl; have hf0 := blk_frozen BK13.out 0; have hs1 : w18.cell? ⟨gb13, 1, none⟩ = some (.slice none 0 0) := (blk_cell BK13.out 1).trans rfl; have hf1 := blk_frozen BK13.out 1; have hs2 : w18.cell? ⟨gb13, 2, none⟩ = some (.bool false) := (blk_cell BK13.out 2).trans rfl; have hf2 := blk_frozen BK13.out 2; have hs3 : w18.cell? ⟨gb13, 3, none⟩ = some (.slice none 0 0) := (blk_cell BK13.out 3).trans rfl; have hf3 := blk_frozen BK13.out 3; have hs4 : w18.cell? ⟨gb13, 4, none⟩ = some (.bool false) := (blk_cell BK13.out 4).trans rfl; have hf4 := blk_frozen BK13.out 4; have hs5 : w18.cell? ⟨gb13, 5, none⟩ = some (.slice none 0 0) := (blk_cell BK13.out 5).trans rfl; have hf5 := blk_frozen BK13.out 5))
  have hk13 : Kept w18 (put6 w18 gb13 (.bool rr.1.1.1) (.slice A1 rr.1.1.2.length c1) (.bool rr.1.2.1.1) (.slice A3 rr.1.2.1.2.length c3) (.bool rr.1.2.2.1) (.slice A5 rr.1.2.2.2.length c5)) (fun k => k = gb13) := put6_kept (Kept.refl _ _) (.inl rfl)
  have h8n : gb8 ≠ gb13 := by have h1 := L8.out; have h2 := G17.out; omega
  have h9n : gb9 ≠ gb13 := by have h1 := L9.out; have h2 := G17.out; omega
  have h10n : gb10 ≠ gb13 := by have h1 := L10.out; have h2 := G17.out; omega
  have hV : ∀ {v : Value} {t : Tr} {B : Nat}, Kd.V k51 51 w18 B (fun k => (((P0_ k ∨ P1_1_ k ∨ P2_1_ k ∨ P3_1_ k) ∧ k < w.heap.size) ∨ w16.heap.size ≤ k) ∧ k < w17.heap.size ∧ ¬ MS gb16 vl2 vp2 k) v t → Kd.V k51 51 (put6 w18 gb13 (.bool rr.1.1.1) (.slice A1 rr.1.1.2.length c1) (.bool rr.1.2.1.1) (.slice A3 rr.1.2.1.2.length c3) (.bool rr.1.2.2.1) (.slice A5 rr.1.2.2.2.length c5)) 0 (fun k => ((P0_ k ∨ P1_1_ k ∨ P2_1_ k ∨ P3_1_ k) ∨ w.heap.size ≤ k) ∧ k ≠ gb8 ∧ k ≠ gb9 ∧ k ≠ gb10) v t := fun hv =>
    Kd.V_mono (put6_V (Kd.V_mono (V_base (b' := 0) hv) (ok' := fun k => (((P0_ k ∨ P1_1_ k ∨ P2_1_ k ∨ P3_1_ k) ∨ w.heap.size ≤ k) ∧ k ≠ gb8 ∧ k ≠ gb9 ∧ k ≠ gb10) ∧ k ≠ gb13) (fun k hk => by
      have g8 := G_gb8.out
      have g9 := G_gb9.out
      have g10 := G_gb10.out
      have m8 := M8.out
      have m9 := M9.out
      have m10 := M10.out
      have s16 := SZ16.out
      have g17 := G17.out
      have hlt := hk.2.1
      rcases hk.1 with h | h
      · have := h.2
        exact ⟨⟨.inl h.1, by omega, by omega, by omega⟩, by omega⟩
      · exact ⟨⟨.inr (by omega), by omega, by omega, by omega⟩, by omega⟩)) (fun _ hk => hk.2)) (fun _ hk => hk.1)
  have W1a := Aside0.mk (hV V1.out)
  have W3a := Aside0.mk (hV V3.out)
  have W5a := Aside0.mk (hV V5.out)
  have D8 := Aside0.mk (blk_kept BK8.out hk13 h8n)
  have D9 := Aside0.mk (blk_kept BK9.out hk13 h9n)
  have D10 := Aside0.mk (blk_kept BK10.out hk13 h10n)
  have D13 := Aside0.mk (put6_blk BK13.out (v0 := .bool rr.1.1.1) (v1 := .slice A1 rr.1.1.2.length c1) (v2 := .bool rr.1.2.1.1) (v3 := .slice A3 rr.1.2.1.2.length c3) (v4 := .bool rr.1.2.2.1) (v5 := .slice A5 rr.1.2.2.2.length c5))
  have ST3 := Aside0.mk (ST2.out.put6 BK13.out (v0 := .bool rr.1.1.1) (v1 := .slice A1 rr.1.1.2.length c1) (v2 := .bool rr.1.2.1.1) (v3 := .slice A3 rr.1.2.1.2.length c3) (v4 := .bool rr.1.2.2.1) (v5 := .slice A5 rr.1.2.2.2.length c5))
  have B3 := Aside0.mk (put6_below HB.out G_gb13.out (v0 := .bool rr.1.1.1) (v1 := .slice A1 rr.1.1.2.length c1) (v2 := .bool rr.1.2.1.1) (v3 := .slice A3 rr.1.2.1.2.length c3) (v4 := .bool rr.1.2.2.1) (v5 := .slice A5 rr.1.2.2.2.length c5))
  clear hV hk13 h8n h9n h10n hs0 hs1 hs2 hs3 hs4 hs5 hf0 hf1 hf2 hf3 hf4 hf5 V1 V3 V5 BK8 BK9 BK10 BK13 ST2 HB
  change Code.wp _ _ _ _ (put6 w18 gb13 (.bool rr.1.1.1) (.slice A1 rr.1.1.2.length c1) (.bool rr.1.2.1.1) (.slice A3 rr.1.2.1.2.length c3) (.bool rr.1.2.2.1) (.slice A5 rr.1.2.2.2.length c5))
  generalize put6 w18 gb13 (.bool rr.1.1.1) (.slice A1 rr.1.1.2.length c1) (.bool rr.1.2.1.1) (.slice A3 rr.1.2.1.2.length c3) (.bool rr.1.2.2.1) (.slice A5 rr.1.2.2.2.length c5) = W18 at W1a W3a W5a D8 D9 D10 D13 ST3 B3 ⊢
  obtain ⟨Al2, cl2, hvl2⟩ := Kd.R_slice ST3.out.hl
  subst hvl2
  have BK8 := Aside0.mk (blk_drew D8.out)
  have BK9 := Aside0.mk (blk_drew D9.out)
  have BK10 := Aside0.mk (blk_drew D10.out)
  have BK13 := Aside0.mk (blk_drew D13.out)
  have ST2 := Aside0.mk (ST3.out.below (bD_ (Below.refl W18.heap.size W18)))
  have HB := Aside0.mk (bD_ B3.out)
  have V1 := Aside0.mk (Kd.V_drew W1a.out)
  have V3 := Aside0.mk (Kd.V_drew W3a.out)
  have V5 := Aside0.mk (Kd.V_drew W5a.out)
  clear D8 D9 D10 D13 ST3 B3 W1a W3a W5a
  refine start_ (n := 15) (S := fun w' => w'.cell? ⟨gb16, 1, none⟩ = some (.slice Al2 rr.2.length cl2) ∧ w'.cell? ⟨gb13, 0, none⟩ = some (.bool rr.1.1.1) ∧ w'.cell? ⟨gb13, 1, none⟩ = some (.slice A1 rr.1.1.2.length c1) ∧ w'.cell? ⟨gb13, 2, none⟩ = some (.bool rr.1.2.1.1) ∧ w'.cell? ⟨gb13, 3, none⟩ = some (.slice A3 rr.1.2.1.2.length c3) ∧ w'.cell? ⟨gb13, 4, none⟩ = some (.bool rr.1.2.2.1) ∧ w'.cell? ⟨gb13, 5, none⟩ = some (.slice A5 rr.1.2.2.2.length c5)) (ds := [13, 14]) #[false, false, false, false, false, false, false, false, false, false, false, false, false, false, false] (by kernel_rfl) rfl rfl ⟨(blk_cell ST2.out.blk 1).trans rfl, (blk_cell BK13.out 0).trans rfl, (blk_cell BK13.out 1).trans rfl, (blk_cell BK13.out 2).trans rfl, (blk_cell BK13.out 3).trans rfl, (blk_cell BK13.out 4).trans rfl, (blk_cell BK13.out 5).trans rfl⟩ (fun hHeld => ?_); refine with_tabW mgm_tab mgm_bits (fun HT_ HW_ => ?_)
  generalize W18.drew = W19 at BK8 BK9 BK10 BK13 ST2 HB V1 V3 V5 hHeld ⊢
  refine pure_ (i := 0) (N := some 23) (v := ?_) (a' := ?_) #[true, false, false, false, false, false, false, false, false, false, false, false, false, false, false] rfl rfl (any_of HT_.out (by kernel_rfl)) (fun _ _ _ h => h) (Or.inl ⟨by rfl, ?_⟩) ?_ ?_
  rotate_left
  · intro w'
    go_simp
    with_reducible rfl
  rotate_left
  · simp only [Act.put, List.setIfInBounds_toArray, List.set_cons_zero, List.set_cons_succ, i64_w, i32_w]
    rfl
  refine take_ (i := 1) (N := some 24) (v := ?_) (a' := ?_) #[true, true, false, false, false, false, false, false, false, false, false, false, false, false, false] rfl rfl (take_ofW HT_.out HW_.out (by kernel_rfl)) (fun _ _ _ h => h) (Or.inl ⟨by rfl, ?_⟩) hHeld ?_ ?_
  rotate_left
  · rintro w' ⟨s0, s1, s2, s3, s4, s5, s6⟩
    go_simp
    with_reducible rfl
  rotate_left
  · simp only [Act.put, List.setIfInBounds_toArray, List.set_cons_zero, List.set_cons_succ, i64_w, i32_w]
    rfl
  refine pure_ (i := 2) (N := some 25) (v := ?_) (a' := ?_) #[true, true, true, false, false, false, false, false, false, false, false, false, false, false, false] rfl rfl (any_of HT_.out (by kernel_rfl)) (fun _ _ _ h => h) (Or.inl ⟨by rfl, ?_⟩) ?_ ?_
  rotate_left
  · intro w'
    go_simp
    with_reducible rfl
  rotate_left
  · simp only [Act.put, List.setIfInBounds_toArray, List.set_cons_zero, List.set_cons_succ, i64_w, i32_w]
    rfl
  refine take_ (i := 3) (N := some 26) (v := ?_) (a' := ?_) #[true, true, true, true, false, false, false, false, false, false, false, false, false, false, false] rfl rfl (take_ofW HT_.out HW_.out (by kernel_rfl)) (fun _ _ _ h => h) (Or.inl ⟨by rfl, ?_⟩) hHeld ?_ ?_
  rotate_left
  · rintro w' ⟨s0, s1, s2, s3, s4, s5, s6⟩
    go_simp
    with_reducible rfl
  rotate_left
  · simp only [Act.put, List.setIfInBounds_toArray, List.set_cons_zero, List.set_cons_succ, i64_w, i32_w]
    rfl
  refine pure_ (i := 4) (N := some 27) (v := ?_) (a' := ?_) #[true, true, true, true, true, false, false, false, false, false, false, false, false, false, false] rfl rfl (any_of HT_.out (by kernel_rfl)) (fun _ _ _ h => h) (Or.inl ⟨by rfl, ?_⟩) ?_ ?_
  rotate_left
  · intro w'
    go_simp
    with_reducible rfl
  rotate_left
  · simp only [Act.put, List.setIfInBounds_toArray, List.set_cons_zero, List.set_cons_succ, i64_w, i32_w]
    rfl
  refine take_ (i := 5) (N := some 28) (v := ?_) (a' := ?_) #[true, true, true, true, true, true, false, false, false, false, false, false, false, false, false] rfl rfl (take_ofW HT_.out HW_.out (by kernel_rfl)) (fun _ _ _ h => h) (Or.inl ⟨by rfl, ?_⟩) hHeld ?_ ?_
  rotate_left
  · rintro w' ⟨s0, s1, s2, s3, s4, s5, s6⟩
    go_simp
    with_reducible rfl
  rotate_left
  · simp only [Act.put, List.setIfInBounds_toArray, List.set_cons_zero, List.set_cons_succ, i64_w, i32_w]
    rfl
  refine pure_ (i := 6) (N := some 29) (v := ?_) (a' := ?_) #[true, true, true, true, true, true, true, false, false, false, false, false, false, false, false] rfl rfl (any_of HT_.out (by kernel_rfl)) (fun _ _ _ h => h) (Or.inl ⟨by rfl, ?_⟩) ?_ ?_
  rotate_left
  · intro w'
    go_simp
    with_reducible rfl
  rotate_left
  · simp only [Act.put, List.setIfInBounds_toArray, List.set_cons_zero, List.set_cons_succ, i64_w, i32_w]
    rfl
  refine pure_ (i := 7) (N := some 30) (v := ?_) (a' := ?_) #[true, true, true, true, true, true, true, true, false, false, false, false, false, false, false] rfl rfl (any_of HT_.out (by kernel_rfl)) (fun _ _ _ h => h) (Or.inl ⟨by rfl, ?_⟩) ?_ ?_
  rotate_left
  · intro w'
    go_simp
    with_reducible rfl
  rotate_left
  · simp only [Act.put, List.setIfInBounds_toArray, List.set_cons_zero, List.set_cons_succ, i64_w, i32_w]
    rfl
  refine pure_ (i := 8) (N := some 31) (v := ?_) (a' := ?_) #[true, true, true, true, true, true, true, true, true, false, false, false, false, false, false] rfl rfl (any_of HT_.out (by kernel_rfl)) (fun _ _ _ h => h) (Or.inl ⟨by rfl, ?_⟩) ?_ ?_
  rotate_left
  · intro w'
    go_simp
    with_reducible rfl
  rotate_left
  · simp only [Act.put, List.setIfInBounds_toArray, List.set_cons_zero, List.set_cons_succ, i64_w, i32_w]
    rfl
  refine take_ (i := 9) (N := some 32) (v := ?_) (a' := ?_) #[true, true, true, true, true, true, true, true, true, true, false, false, false, false, false] rfl rfl (take_ofW HT_.out HW_.out (by kernel_rfl)) (fun _ _ _ h => h) (Or.inl ⟨by rfl, ?_⟩) hHeld ?_ ?_
  rotate_left
  · rintro w' ⟨s0, s1, s2, s3, s4, s5, s6⟩
    go_simp
    with_reducible rfl
  rotate_left
  · simp only [Act.put, List.setIfInBounds_toArray, List.set_cons_zero, List.set_cons_succ, i64_w, i32_w]
    rfl
  refine one_ (i := 10) (N := some 33) #[true, true, true, true, true, true, true, true, true, true, true, false, false, false, false] rfl rfl (one_of HT_.out (by kernel_rfl)) (by decide) (fun K hK => ?_)
  refine goes_ Try.func22 (by kernel_rfl) rfl #[.slice Al2 rr.2.length cl2] (by rfl) rfl rfl (by (try simp only [List.map_toArray, List.map_cons, List.map_nil]); first | done | rfl) ?_
  refine (api_Conflict.calls (fun k => w.heap.size ≤ k ∧ k ≠ gb8 ∧ k ≠ gb9 ∧ k ≠ gb10) Al2 cl2 rr.2 rr.2 _ (Kd.R_V (Kd.R_mono (Kd.R_types (Kd.R_types (Kd.R_types (Kd.R_bound ST2.out.hl) BK8.out (by decide)) BK9.out (by decide)) BK10.out (by decide)) (fun k hk => ⟨hk.1.1.1.2.1, hk.1.1.2, hk.1.2, hk.2⟩))) (clone38_eq _ hrl)).mono ?_
  rintro e w20 ⟨v33, rfl, hN, hb⟩
  refine ⟨_, rfl, ?_⟩
  obtain ⟨A33, c33, rfl⟩ := Kd.N_slice hN
  have N8 := Aside0.mk (blk_below BK8.out hb)
  have N9 := Aside0.mk (blk_below BK9.out hb)
  have N10 := Aside0.mk (blk_below BK10.out hb)
  have N13 := Aside0.mk (blk_below BK13.out hb)
  have NS := Aside0.mk (ST2.out.below hb)
  have NB := Aside0.mk (below_then HB.out HB.out.size hb)
  have N1 := Aside0.mk (Kd.V_below (Kd.V_bound V1.out) hb)
  have N3 := Aside0.mk (Kd.V_below (Kd.V_bound V3.out) hb)
  have N5 := Aside0.mk (Kd.V_below (Kd.V_bound V5.out) hb)
  have SZ := Aside0.mk HB.out.size
  have L8b := Aside0.mk (blk_lt BK8.out)
  have L9b := Aside0.mk (blk_lt BK9.out)
  have L10b := Aside0.mk (blk_lt BK10.out)
  have HN := Aside0.mk hN
  clear BK8 BK9 BK10 BK13 ST2 HB V1 V3 V5 hN hb
  have BK8 := N8
  have BK9 := N9
  have BK10 := N10
  have BK13 := N13
  have ST2 := NS
  have HB := NB
  have V1 := N1
  have V3 := N3
  have V5 := N5
  clear N8 N9 N10 N13 NS NB N1 N3 N5
  refine hK.out _ _ ⟨(blk_cell ST2.out.blk 1).trans rfl, (blk_cell BK13.out 0).trans rfl, (blk_cell BK13.out 1).trans rfl, (blk_cell BK13.out 2).trans rfl, (blk_cell BK13.out 3).trans rfl, (blk_cell BK13.out 4).trans rfl, (blk_cell BK13.out 5).trans rfl⟩ (fun hHeld => ?_)
  clear hK K
  refine norm_ (a' := ?_) ?_ ?_
  rotate_left
  · show Act.put _ (some 33) _ = _
    simp only [Act.put, List.setIfInBounds_toArray, List.set_cons_zero, List.set_cons_succ, i64_w, i32_w]
    rfl
  have BK16 := Aside0.mk ST2.out.blk
  clear ST2
  have KP := Aside0.mk (Kept.refl w20 (fun k => k = gb8 ∨ k = gb9 ∨ k = gb10))
  refine one_ (i := 11) (N := none) #[true, true, true, true, true, true, true, true, true, true, true, true, false, false, false] rfl rfl (one_of HT_.out (by kernel_rfl)) (by decide) (fun K hK => ?_)
  have hs0 : w20.cell? ⟨gb8, 0, none⟩ = some (.bool false) := (blk_cell BK8.out 0).trans rfl
  have hs1 : w20.cell? ⟨gb8, 1, none⟩ = some (.slice none 0 0) := (blk_cell BK8.out 1).trans rfl
  have hf0 := blk_frozen BK8.out 0
  have hf1 := blk_frozen BK8.out 1
  refine skip_ (w1 := ?_) (by rfl) rfl ?_ ?_
  rotate_left
  · go_simp
    rfl
  clear hs0 hs1 hf0 hf1
  have F8 := Aside0.mk (blk_put (blk_put BK8.out 0 (.bool rr.1.1.1) rfl) 1 (.slice A1 rr.1.1.2.length c1) rfl)
  have F9 := Aside0.mk (blk_far (blk_far BK9.out (p := ⟨gb8, 0, none⟩) (show gb9 ≠ gb8 from by have h1 := M_8_9.out; omega) (.bool rr.1.1.1)) (p := ⟨gb8, 1, none⟩) (show gb9 ≠ gb8 from by have h1 := M_8_9.out; omega) (.slice A1 rr.1.1.2.length c1))
  have F10 := Aside0.mk (blk_far (blk_far BK10.out (p := ⟨gb8, 0, none⟩) (show gb10 ≠ gb8 from by have h1 := M_8_10.out; omega) (.bool rr.1.1.1)) (p := ⟨gb8, 1, none⟩) (show gb10 ≠ gb8 from by have h1 := M_8_10.out; omega) (.slice A1 rr.1.1.2.length c1))
  have F13 := Aside0.mk (blk_far (blk_far BK13.out (p := ⟨gb8, 0, none⟩) (blk_ne BK13.out BK8.out (by decide)) (.bool rr.1.1.1)) (p := ⟨gb8, 1, none⟩) (blk_ne BK13.out BK8.out (by decide)) (.slice A1 rr.1.1.2.length c1))
  have F16 := Aside0.mk (blk_far (blk_far BK16.out (p := ⟨gb8, 0, none⟩) (blk_ne BK16.out BK8.out (by decide)) (.bool rr.1.1.1)) (p := ⟨gb8, 1, none⟩) (blk_ne BK16.out BK8.out (by decide)) (.slice A1 rr.1.1.2.length c1))
  clear BK8
  have BK8 := F8
  clear F8
  clear BK9
  have BK9 := F9
  clear F9
  clear BK10
  have BK10 := F10
  clear F10
  clear BK13
  have BK13 := F13
  clear F13
  clear BK16
  have BK16 := F16
  clear F16
  have NK := Aside0.mk ((KP.out.setCell (p := ⟨gb8, 0, none⟩) (.inl (.inl rfl)) (.bool rr.1.1.1)).setCell (p := ⟨gb8, 1, none⟩) (.inl (.inl rfl)) (.slice A1 rr.1.1.2.length c1))
  have NB := Aside0.mk ((HB.out.setCell G_gb8.out (p := ⟨gb8, 0, none⟩) (.bool rr.1.1.1)).setCell G_gb8.out (p := ⟨gb8, 1, none⟩) (.slice A1 rr.1.1.2.length c1))
  clear KP HB
  have KP := NK
  have HB := NB
  clear NK NB
  refine hK.out _ _ ⟨(blk_cell BK16.out 1).trans rfl, (blk_cell BK13.out 0).trans rfl, (blk_cell BK13.out 1).trans rfl, (blk_cell BK13.out 2).trans rfl, (blk_cell BK13.out 3).trans rfl, (blk_cell BK13.out 4).trans rfl, (blk_cell BK13.out 5).trans rfl⟩ (fun hHeld => ?_)
  clear hK K
  change wpAnyLast _ _ _ _ _ _ _ _ _ (World.setCell (World.setCell w20 ⟨gb8, 0, none⟩ (.bool rr.1.1.1)) ⟨gb8, 1, none⟩ (.slice A1 rr.1.1.2.length c1))
  generalize World.setCell (World.setCell w20 ⟨gb8, 0, none⟩ (.bool rr.1.1.1)) ⟨gb8, 1, none⟩ (.slice A1 rr.1.1.2.length c1) = w21 at BK8 BK9 BK10 BK13 BK16 KP HB hHeld ⊢
  refine one_ (i := 12) (N := none) #[true, true, true, true, true, true, true, true, true, true, true, true, true, false, false] rfl rfl (one_of HT_.out (by kernel_rfl)) (by decide) (fun K hK => ?_)
  have hs0 : w21.cell? ⟨gb9, 0, none⟩ = some (.bool false) := (blk_cell BK9.out 0).trans rfl
  have hs1 : w21.cell? ⟨gb9, 1, none⟩ = some (.slice none 0 0) := (blk_cell BK9.out 1).trans rfl
  have hf0 := blk_frozen BK9.out 0
  have hf1 := blk_frozen BK9.out 1
  refine skip_ (w1 := ?_) (by rfl) rfl ?_ ?_
  rotate_left
  · go_simp
    rfl
  clear hs0 hs1 hf0 hf1
  have F9 := Aside0.mk (blk_put (blk_put BK9.out 0 (.bool rr.1.2.1.1) rfl) 1 (.slice A3 rr.1.2.1.2.length c3) rfl)
  have F8 := Aside0.mk (blk_far (blk_far BK8.out (p := ⟨gb9, 0, none⟩) (show gb8 ≠ gb9 from by have h1 := M_8_9.out; omega) (.bool rr.1.2.1.1)) (p := ⟨gb9, 1, none⟩) (show gb8 ≠ gb9 from by have h1 := M_8_9.out; omega) (.slice A3 rr.1.2.1.2.length c3))
  have F10 := Aside0.mk (blk_far (blk_far BK10.out (p := ⟨gb9, 0, none⟩) (show gb10 ≠ gb9 from by have h1 := M_9_10.out; omega) (.bool rr.1.2.1.1)) (p := ⟨gb9, 1, none⟩) (show gb10 ≠ gb9 from by have h1 := M_9_10.out; omega) (.slice A3 rr.1.2.1.2.length c3))
  have F13 := Aside0.mk (blk_far (blk_far BK13.out (p := ⟨gb9, 0, none⟩) (blk_ne BK13.out BK9.out (by decide)) (.bool rr.1.2.1.1)) (p := ⟨gb9, 1, none⟩) (blk_ne BK13.out BK9.out (by decide)) (.slice A3 rr.1.2.1.2.length c3))
  have F16 := Aside0.mk (blk_far (blk_far BK16.out (p := ⟨gb9, 0, none⟩) (blk_ne BK16.out BK9.out (by decide)) (.bool rr.1.2.1.1)) (p := ⟨gb9, 1, none⟩) (blk_ne BK16.out BK9.out (by decide)) (.slice A3 rr.1.2.1.2.length c3))
  clear BK8
  have BK8 := F8
  clear F8
  clear BK9
  have BK9 := F9
  clear F9
  clear BK10
  have BK10 := F10
  clear F10
  clear BK13
  have BK13 := F13
  clear F13
  clear BK16
  have BK16 := F16
  clear F16
  have NK := Aside0.mk ((KP.out.setCell (p := ⟨gb9, 0, none⟩) (.inl (.inr (.inl rfl))) (.bool rr.1.2.1.1)).setCell (p := ⟨gb9, 1, none⟩) (.inl (.inr (.inl rfl))) (.slice A3 rr.1.2.1.2.length c3))
  have NB := Aside0.mk ((HB.out.setCell G_gb9.out (p := ⟨gb9, 0, none⟩) (.bool rr.1.2.1.1)).setCell G_gb9.out (p := ⟨gb9, 1, none⟩) (.slice A3 rr.1.2.1.2.length c3))
  clear KP HB
  have KP := NK
  have HB := NB
  clear NK NB
  refine hK.out _ _ ⟨(blk_cell BK16.out 1).trans rfl, (blk_cell BK13.out 0).trans rfl, (blk_cell BK13.out 1).trans rfl, (blk_cell BK13.out 2).trans rfl, (blk_cell BK13.out 3).trans rfl, (blk_cell BK13.out 4).trans rfl, (blk_cell BK13.out 5).trans rfl⟩ (fun hHeld => ?_)
  clear hK K
  change wpAnyLast _ _ _ _ _ _ _ _ _ (World.setCell (World.setCell w21 ⟨gb9, 0, none⟩ (.bool rr.1.2.1.1)) ⟨gb9, 1, none⟩ (.slice A3 rr.1.2.1.2.length c3))
  generalize World.setCell (World.setCell w21 ⟨gb9, 0, none⟩ (.bool rr.1.2.1.1)) ⟨gb9, 1, none⟩ (.slice A3 rr.1.2.1.2.length c3) = w22 at BK8 BK9 BK10 BK13 BK16 KP HB hHeld ⊢
  refine last_ (i := 13) (N := none) #[true, true, true, true, true, true, true, true, true, true, true, true, true, true, false] rfl rfl (one_of HT_.out (by kernel_rfl)) (by decide) (fun K hK => ?_)
  have hs0 : w22.cell? ⟨gb10, 0, none⟩ = some (.bool false) := (blk_cell BK10.out 0).trans rfl
  have hs1 : w22.cell? ⟨gb10, 1, none⟩ = some (.slice none 0 0) := (blk_cell BK10.out 1).trans rfl
  have hf0 := blk_frozen BK10.out 0
  have hf1 := blk_frozen BK10.out 1
  refine skip_ (w1 := ?_) (by rfl) rfl ?_ ?_
  rotate_left
  · go_simp
    rfl
  clear hs0 hs1 hf0 hf1
  have F10 := Aside0.mk (blk_put (blk_put BK10.out 0 (.bool rr.1.2.2.1) rfl) 1 (.slice A5 rr.1.2.2.2.length c5) rfl)
  have F8 := Aside0.mk (blk_far (blk_far BK8.out (p := ⟨gb10, 0, none⟩) (show gb8 ≠ gb10 from by have h1 := M_8_10.out; omega) (.bool rr.1.2.2.1)) (p := ⟨gb10, 1, none⟩) (show gb8 ≠ gb10 from by have h1 := M_8_10.out; omega) (.slice A5 rr.1.2.2.2.length c5))
  have F9 := Aside0.mk (blk_far (blk_far BK9.out (p := ⟨gb10, 0, none⟩) (show gb9 ≠ gb10 from by have h1 := M_9_10.out; omega) (.bool rr.1.2.2.1)) (p := ⟨gb10, 1, none⟩) (show gb9 ≠ gb10 from by have h1 := M_9_10.out; omega) (.slice A5 rr.1.2.2.2.length c5))
  have F13 := Aside0.mk (blk_far (blk_far BK13.out (p := ⟨gb10, 0, none⟩) (blk_ne BK13.out BK10.out (by decide)) (.bool rr.1.2.2.1)) (p := ⟨gb10, 1, none⟩) (blk_ne BK13.out BK10.out (by decide)) (.slice A5 rr.1.2.2.2.length c5))
  have F16 := Aside0.mk (blk_far (blk_far BK16.out (p := ⟨gb10, 0, none⟩) (blk_ne BK16.out BK10.out (by decide)) (.bool rr.1.2.2.1)) (p := ⟨gb10, 1, none⟩) (blk_ne BK16.out BK10.out (by decide)) (.slice A5 rr.1.2.2.2.length c5))
  clear BK8
  have BK8 := F8
  clear F8
  clear BK9
  have BK9 := F9
  clear F9
  clear BK10
  have BK10 := F10
  clear F10
  clear BK13
  have BK13 := F13
  clear F13
  clear BK16
  have BK16 := F16
  clear F16
  have NK := Aside0.mk ((KP.out.setCell (p := ⟨gb10, 0, none⟩) (.inl (.inr (.inr rfl))) (.bool rr.1.2.2.1)).setCell (p := ⟨gb10, 1, none⟩) (.inl (.inr (.inr rfl))) (.slice A5 rr.1.2.2.2.length c5))
  have NB := Aside0.mk ((HB.out.setCell G_gb10.out (p := ⟨gb10, 0, none⟩) (.bool rr.1.2.2.1)).setCell G_gb10.out (p := ⟨gb10, 1, none⟩) (.slice A5 rr.1.2.2.2.length c5))
  clear KP HB
  have KP := NK
  have HB := NB
  clear NK NB
  refine hK.out _ _ ?_
  clear hK K
  change wpAnyLast _ _ _ _ _ _ _ _ _ (World.setCell (World.setCell w22 ⟨gb10, 0, none⟩ (.bool rr.1.2.2.1)) ⟨gb10, 1, none⟩ (.slice A5 rr.1.2.2.2.length c5))
  generalize World.setCell (World.setCell w22 ⟨gb10, 0, none⟩ (.bool rr.1.2.2.1)) ⟨gb10, 1, none⟩ (.slice A5 rr.1.2.2.2.length c5) = w23 at BK8 BK9 BK10 BK13 BK16 KP HB ⊢
  refine pure_ (i := 14) (N := some 11) (v := ?_) (a' := ?_) #[true, true, true, true, true, true, true, true, true, true, true, true, true, true, true] rfl rfl (any_of HT_.out (by kernel_rfl)) (fun _ _ _ h => h) (Or.inl ⟨by rfl, ?_⟩) ?_ ?_
  rotate_left
  · intro w'
    go_simp
    with_reducible rfl
  rotate_left
  · simp only [Act.put, List.setIfInBounds_toArray, List.set_cons_zero, List.set_cons_succ, i64_w, i32_w]
    rfl
  refine done_ (done_of HT_.out (by kernel_rfl)) ?_
  go_wp2
  refine bodyPost_ret (results_list (rs := [.cell 8 26, .cell 9 26, .cell 10 26, .tmp 11]) rfl (by simp) (.cell gb8 26 #[.bool rr.1.1.1, .slice A1 rr.1.1.2.length c1] (0, 0) _ rfl BK8.out Try.underlying26 rfl (by kernel_rfl) (.cell gb9 26 #[.bool rr.1.2.1.1, .slice A3 rr.1.2.1.2.length c3] (0, 0) _ rfl BK9.out Try.underlying26 rfl (by kernel_rfl) (.cell gb10 26 #[.bool rr.1.2.2.1, .slice A5 rr.1.2.2.2.length c5] (0, 0) _ rfl BK10.out Try.underlying26 rfl (by kernel_rfl) (.tmp .nil))))) rfl ?_
  have h33 : ∀ k, k < W19.heap.size → some k ≠ (Value.slice A33 rr.2.length c33).ownBlock := fun k hk e => by
    have := Kd.N_base HN.out k e.symm
    omega
  refine ⟨_, _, _, _, rfl, ?_, ?_, ?_, ?_, HB.out⟩
  · exact V_base (Kd.V_mono (Kd.V_kept V1.out KP.out (fun k hk => by have := hk.1.2; omega)) (fun k hk => ⟨hk.1.1, h33 k hk.2⟩))
  · exact V_base (Kd.V_mono (Kd.V_kept V3.out KP.out (fun k hk => by have := hk.1.2; omega)) (fun k hk => ⟨hk.1.1, h33 k hk.2⟩))
  · exact V_base (Kd.V_mono (Kd.V_kept V5.out KP.out (fun k hk => by have := hk.1.2; omega)) (fun k hk => ⟨hk.1.1, h33 k hk.2⟩))
  · refine Kd.N_lower (Kd.N_mono (Kd.N_kept HN.out KP.out (fun k hk => ?_)) (fun k hk => ?_)) SZ.out
    · have h8 := L8b.out
      have h9 := L9b.out
      have h10 := L10b.out
      rcases hk with hk | hk
      · have := hk.2
        omega
      · omega
    · have h0 := SZ.out
      rcases hk with hk | hk
      · exact .inr hk.1
      · exact .inr (by omega)
end Go.Proofs.Ytainbaehfdhmbaa.PX
namespace Go.Proofs.Ytainbaehfdhmbaa.PX
open Go.RowKit Go.Proofs.YtainbaehfdhmbaaW.PrintWords Go.Proofs.YtainbaehfdhmbaaW.PrintLast Go.Proofs.YtainbaehfdhmbaaW.PrintMore
attribute [local go_sem] max2_int min2_int max_two min_two max_three min_three max_four min_four   
set_option linter.unusedVariables false
set_option linter.unusedSimpArgs false
def cadencelaw12_some.f (l0:List (S51)):Option (Bool × (List (S51))):=some (true,l0)
set_option maxHeartbeats 8000000 in
set_option maxRecDepth 100000 in
theorem cadencelaw12_some.calls (P0_:Nat→Prop) (A0:Option Addr) (c0:Nat) (l0:List (S51)) (r1:Bool) (r2:List (S51)) (w:World) (hs0:Kd.V k51 51 w w.heap.size (fun k_=>P0_ k_) (.slice A0 l0.length c0) l0) (h:cadencelaw12_some.f l0=some (r1,r2)) :
  Calls Try.prog 10 #[.slice A0 l0.length c0] w fun e w'=>∃ v1_:Value,e=.returned (.agg #[.bool r1,v1_])∧Kd.V k51 51 w' w.heap.size (fun k_=>(P0_ k_∨w.heap.size≤k_)) v1_ r2∧Below w.heap.size w w':=by
 have hu26:=Try.underlying26
 have HO0:=Aside0.mk (show Kd.V k51 51 w w.heap.size (fun k_=>(P0_ k_∨w.heap.size≤k_)) (.slice A0 l0.length c0) l0 from Kd.V_mono hs0 (fun k_ hk=>.inl hk))
 have HB:=Aside0.mk (Below.refl w.heap.size w)
 have H:(some (true,l0))=some (r1,r2):=h
 clear h
 simp only [Option.some.injEq,Prod.mk.injEq] at H
 obtain ⟨rfl,rfl⟩:=H
 go_enter Try.func10,Try.ntmps10
 go_wp2_with (first|((with_reducible refine gate_dst (N:=2) rfl ?_);refine box_event ?hg (N:=2) ?hd (cs:=#[.bool false,.slice none 0 0]) (t:=26) ?hr ?_;(case hd=>rfl);(case hg=>rfl);(case hr=>first|(go_simp;done)|(go_simp;rfl));intro gb101 hg w2 hbox hb;have n0_:=Aside0.mk (Kd.V_below (Kd.V_elderB (by (with_reducible repeat (first|apply vA_|apply vN_|apply vD_));exact HO0.out) gb101 (Nat.le_of_eq hg.symm)) hb);have n1_:=Aside0.mk (below_step (by repeat (first|(with_reducible first|exact HB.out|apply bA_|apply bN_|apply bD_)|exact HB.out)) hb);have n2_:=Aside0.mk (hbox);have n3_:=Aside0.mk ((by rw [hg];exact (below_size (by repeat (first|(with_reducible first|exact HB.out|apply bA_|apply bN_|apply bD_)|exact HB.out))):w.heap.size≤gb101));have n4_:=Aside0.mk ((by rw [hg];exact (below_size (by repeat (first|(with_reducible first|exact HB.out|apply bA_|apply bN_|apply bD_)|exact HB.out))):w.heap.size≤gb101));clear HO0;clear HB;have HO0:=n0_;have HB:=n1_;have BK101:=n2_;have GW101:=n3_;have GE101:=n4_;clear n0_ n1_ n2_ n3_ n4_;clear hb hbox hg;have hcz3_0:w2.cell? ⟨gb101,0,none⟩=some (.bool false):=(blk_cell BK101.out 0).trans rfl;have hcz3_1:w2.cell? ⟨gb101,1,none⟩=some (.slice none 0 0):=(blk_cell BK101.out 1).trans rfl;have hfz3_0:=blk_frozen BK101.out 0;have hfz3_1:=blk_frozen BK101.out 1))
 refine bodyPost_ret (results_cell_row rfl _ _ gb101 26 #[.bool true,.slice A0 l0.length c0] (0,0) _ rfl (by (with_reducible repeat (first|refine blk_drewN ?_ _|refine blk_drew ?_|refine blk_alloc ?_ _));refine blk_put (cs:=#[.bool true,.slice none 0 0]) ?_ 1 _ rfl;(with_reducible repeat (first|refine blk_drewN ?_ _|refine blk_drew ?_|refine blk_alloc ?_ _));refine blk_put (cs:=#[.bool false,.slice none 0 0]) ?_ 0 _ rfl;(with_reducible repeat (first|refine blk_drewN ?_ _|refine blk_drew ?_|refine blk_alloc ?_ _));exact BK101.out) Try.underlying26 rfl (by kernel_rfl)) rfl ?_
 exact ⟨_,by first|rfl|(simp [errW_none,errW_some] <;> rfl)|(simp [*,errW_none,errW_some] <;> rfl),by (with_reducible repeat (first|apply vA_|apply vN_|apply vD_));exact Kd.V_mono (Kd.V_far (p:=⟨gb101,1,none⟩) (Kd.V_far (p:=⟨gb101,0,none⟩) (Kd.V_mono HO0.out (fun k_ hk=>(⟨hk,hk.2⟩:_∧k_≠gb101))) (fun _ hk=>hk.2) (.bool true)) (fun _ hk=>hk.2) (.slice A0 l0.length c0)) (fun _ hk=>hk.1.1),by repeat (first|(with_reducible first|exact HB.out|apply bA_|apply bN_|apply bD_|refine below_set ?_ GE101.out)|exact HB.out)⟩
end Go.Proofs.Ytainbaehfdhmbaa.PX
namespace Go.Proofs.Ytainbaehfdhmbaa.PX
open Go.RowKit Go.Proofs.YtainbaehfdhmbaaW.PrintWords Go.Proofs.YtainbaehfdhmbaaW.PrintLast Go.Proofs.YtainbaehfdhmbaaW.PrintMore
attribute [local go_sem] max2_int min2_int max_two min_two max_three min_three max_four min_four   
set_option linter.unusedVariables false
set_option linter.unusedSimpArgs false
def cadenceref2_Value.f (a0:ByteArray):Option ((List (S51))):=some (([(⟨a0,([]:List (S51))⟩:S51)]:List (S51)))
set_option maxHeartbeats 8000000 in
set_option maxRecDepth 100000 in
theorem cadenceref2_Value.calls (a0:ByteArray) (r:List (S51)) (w:World) (h:cadenceref2_Value.f a0=some r) :
  Calls Try.prog 20 #[.string a0] w fun e w'=>∃ v0_:Value,e=.returned (v0_)∧Kd.R k51 51 w' w.heap.size (fun _=>True) v0_ r∧Below w.heap.size w w':=by
 have hu51:=Try.underlying51
 have HB:=Aside0.mk (Below.refl w.heap.size w)
 have H:(some (([(⟨a0,([]:List (S51))⟩:S51)]:List (S51))))=some r:=h
 clear h
 obtain ⟨y102,hy102⟩:∃ y_:List (S51),y_=(([(⟨a0,([]:List (S51))⟩:S51)]:List (S51))):=⟨_,rfl⟩
 replace H:(some y102)=some r:=by first|(rw [hy102];with_reducible exact H)|(have H2_:=(Option.bind_some _ _).symm.trans H;rw [hy102];with_reducible exact H2_)|(have H2_:=(Option.bind_some _ _).symm.trans H;with_reducible exact H2_)|with_reducible exact H|(rw [hy102];exact H)|exact H
 have Ny102:=Aside0.mk hy102
 clear hy102
 obtain rfl:=Option.some.inj H
 go_enter Try.func20,Try.ntmps20
 go_wp2_with (first|((with_reducible refine gate_dst (N:=5) rfl ?_);refine Kd.R_lit k51 _ 51 ?hg (N:=5) ?hd (xs:=([(⟨a0,([]:List (S51))⟩:S51)]:List (S51))) (inner:=[.string a0,.slice none 0 0]) (ok:=fun _=>True) (okp:=fun _=>True) ?hr ?hp (fun _ hk=>hk) trivial (Below.refl _ _) (Nat.le_refl _) (by simp) ?_;(case hd=>rfl);(case hg=>rfl);(case hr=>first|(go_simp;done)|(go_simp;rfl));(case hp=>exact (Reps.c2 (show Kd.M k51 _ _ _ (⟨a0,([]:List (S51))⟩:S51) [.string a0,.slice none 0 0] from (k51_mkM _ _ _ (⟨a0,([]:List (S51))⟩:S51) (Kd.R_nil _ _ _ _ _))) (Reps.none _ _)));intro v103 w2 ho3 hb hg_ hnew_;clear hg_ hnew_;(first|rw [← Ny102.out] at ho3|(simp only [Int.reduceToNat] at ho3;rw [← Ny102.out] at ho3));have n0_:=Aside0.mk (Kd.R_lower ho3 (below_size (by repeat (first|(with_reducible first|exact HB.out|apply bA_|apply bN_|apply bD_)|exact HB.out))));have n1_:=Aside0.mk (below_step (by repeat (first|(with_reducible first|exact HB.out|apply bA_|apply bN_|apply bD_)|exact HB.out)) hb);clear HB;have HO104:=n0_;have HB:=n1_;clear n0_ n1_;clear hb ho3))
 go_ret
 exact ⟨_,by first|rfl|(simp [errW_none,errW_some] <;> rfl)|(simp [*,errW_none,errW_some] <;> rfl),by (with_reducible repeat (first|apply rA_|apply rN_|apply rD_));exact HO104.out,by repeat (first|(with_reducible first|exact HB.out|apply bA_|apply bN_|apply bD_)|exact HB.out)⟩
end Go.Proofs.Ytainbaehfdhmbaa.PX
