/-
  The statement of 'CommitTwice': the Go function returns true at every input, and its arguments read as before.
  Conditions: none.
-/
import Derived.Test.YtcfbkhgdlgnmgaaMCommitTwice2
import Derived.Test.YtcfbkhgdlgnmgaaRows
set_option linter.unusedVariables false
set_option linter.unusedSimpArgs false
set_option maxRecDepth 100000
namespace Go.Proofs.Ytcfbkhgdlgnmgaa
open Go.RowKit Go.Maps Go.Sort
attribute [local go_sem] Vc.known_tmp Vc.known_const Vc.known_func Vc.known_global Vc.lk Vc.okUpon Vc.Fact.holds
def strs4 : List Str := [[97], [98], [111], [120]]
def nmA (i : Nat) : Str := strs4.getD i []
def cut60 (q : Rw) : Rw := ⟨q.A, min q.n 60, q.c, q.b.take 60⟩
def goodR (rs : List FlR) (n : Nat) : List FlR := (List.range n).map fun i => ⟨nmA i, cut60 (rs[i]!).q⟩
theorem goodR_len (rs : List FlR) (n : Nat) : (goodR rs n).length = n := by simp [goodR]
theorem goodR_succ (rs : List FlR) {n : Nat} (h : n < rs.length) : goodR rs (n + 1) = goodR rs n ++ [⟨nmA n, cut60 rs[n].q⟩] := by
  unfold goodR
  rw [List.range_succ, List.map_append]
  simp [h]
section
variable {X Z : Nat → Prop} {w w' : World} {A : Option Addr} {rs : List FlR}
def FewM (rs : List FlR) : Prop := (∀ f ∈ rs, f.q.n ≤ 9000 ∧ f.nm.length ≤ 40) ∧ rs.length ≤ 10
instance (rs : List FlR) : Decidable (FewM rs) := by unfold FewM; infer_instance
theorem few_any (h : FlS w Z A rs) (c : Nat) (hl : rs.length ≤ maxLen) :
    Calls Try.prog 11 #[.slice A rs.length c] w fun e w' => e = .returned (.bool (decide (FewM rs))) ∧ w' = w := by
  unfold maxLen at hl
  obtain ⟨R, hR⟩ : ∃ R, R = decide (FewM rs) := ⟨_, rfl⟩
  rw [← hR]
  have HR := Lib.hid hR
  clear hR
  generalize hn : rs.length = n at hl ⊢
  go_enter Try.func11, Try.ntmps11
  go_wp2_with fail
  go_loopw [3] (fun i wr => ∃ j : Nat, j ≤ n ∧ i = .int .i64 j ∧ Hid (∀ i (h : i < rs.length), i < j → rs[i].q.n ≤ 9000 ∧ rs[i].nm.length ≤ 40) ∧ wr = w) (fun i _ => n - (intOf i).toNat)
  case atStart => exact ⟨0, by omega, rfl, Lib.hid (fun i h h' => absurd h' (by omega)), rfl⟩
  case round =>
    obtain ⟨j, hj, rfl, hall, rfl⟩ := hrel
    by_cases hlt : j < n
    · have hjl : j < rs.length := by omega
      obtain ⟨g, off, rfl, x0, x1⟩ := h.at_ hjl
      have hal := Lib.hid (fun (h1 : rs[j].q.n ≤ 9000) (h2 : rs[j].nm.length ≤ 40) => show ∀ i (h : i < rs.length), i < j + 1 → rs[i].q.n ≤ 9000 ∧ rs[i].nm.length ≤ 40 from fun i h h' => by
        by_cases e : i = j
        · subst e; exact ⟨h1, h2⟩
        · exact hall.out i h (by omega))
      have hbad := Lib.hid (fun (h1 : ¬ (rs[j].q.n ≤ 9000 ∧ rs[j].nm.length ≤ 40)) => show R = false from by
        rw [HR.out]
        exact decide_eq_false fun hf => h1 (hf.1 _ (List.getElem_mem hjl)))
      have hlec := (h.ok _ (List.getElem_mem hjl)).1.le
      have hnl := (h.ok _ (List.getElem_mem hjl)).2.1
      unfold maxLen at hnl
      generalize rs[j].q.n = qn at *
      generalize rs[j].q.A = qA at *
      generalize rs[j].q.c = qc at *
      generalize rs[j].nm = nm at *
      by_cases h1 : 9000 < qn
      · go_wp2
        go_ret
        rw [hbad.out (by omega)]
        exact ⟨rfl, rfl⟩
      · by_cases h2 : 40 < nm.length
        · go_wp2
          go_ret
          rw [hbad.out (by omega)]
          exact ⟨rfl, rfl⟩
        · have h3 := Lib.hid (hal.out (by omega) (by omega))
          go_wp2
          go_roundw
          case rel => exact ⟨j + 1, by omega, by go_num, h3, trivial⟩
          case measure => simp [intOf]; omega
    · obtain rfl : j = n := by omega
      by_cases h10 : j ≤ 10
      · have hRt := Lib.hid (show R = true from by
          rw [HR.out]
          exact decide_eq_true ⟨fun f hf => by obtain ⟨i, hi, rfl⟩ := List.getElem_of_mem hf; exact hall.out i hi (by omega), by omega⟩)
        go_wp2
        go_ret
        rw [hRt.out]
        refine ⟨?_, rfl⟩
        simp
        omega
      · have hRt := Lib.hid (show R = false from by
          rw [HR.out]
          exact decide_eq_false fun hf => h10 (by have := hf.2; omega))
        go_wp2
        go_ret
        rw [hRt.out]
        refine ⟨?_, rfl⟩
        simp
        omega
theorem row4_at (i : Nat) (h : i < 4) : (strs4.map encStr)[i]? = some (encStr (nmA i)) := by
  rw [List.getElem?_map]
  unfold nmA strs4
  rcases i with _ | _ | _ | _ | i <;> first | rfl | omega
set_option maxHeartbeats 1000000 in
theorem good_any (h : FlS w Z A rs) (hz : ∀ i, Z i → i < w.heap.size) (c : Nat) (k : Nat) (hk : k ≤ 4) (hl : rs.length ≤ maxLen) :
    Calls Try.prog 12 #[.slice A rs.length c, .int .i64 k] w fun e w' => ∃ A' c', e = .returned (.slice A' (min rs.length k) c') ∧ FlO w' Z w.heap.size A' (min rs.length k) c' (goodR rs (min rs.length k)) ∧ Gr w w' := by
  unfold maxLen at hl
  obtain ⟨i0, hi, hz0, hz1, hz2⟩ := info_parts info_cfile
  generalize hn : rs.length = n at hl ⊢
  go_enter Try.func12, Try.ntmps12
  go_wp2_with fail
  go_loopw [5, 6] (fun t i wr => ∃ j : Nat, j ≤ min n k ∧ i = .int .i64 j ∧ ∃ A' c', t = .slice A' j c' ∧ Hid (FlO wr Z w.heap.size A' j c' (goodR rs j)) ∧ Gr w wr) (fun _ i _ => min n k - (intOf i).toNat)
  case atStart => exact ⟨0, by omega, rfl, none, 0, rfl, Lib.hid (FlO.nil _ _ _), Gr.rfl' _⟩
  case round =>
    obtain ⟨j, hj, rfl, A1, c1, rfl, hfl, hg⟩ := hrel
    by_cases hlt : j < min n k
    · have hjl : j < rs.length := by omega
      have hjn : j < n := by omega
      have hjk : j < k := by omega
      have hj4 : j < 4 := by omega
      have hgs := Lib.hid (goodR_succ rs hjl)
      obtain ⟨g, off, rfl, x0, x1⟩ := (h.gr hg).at_ hjl
      have hq := ((h.gr hg).ok _ (List.getElem_mem hjl)).1
      have hqz := ((h.gr hg).ok _ (List.getElem_mem hjl)).2.2
      have hle := hq.le
      have hlec := hq.lec
      unfold maxLen at hlec
      have hrow4 := Lib.hid (row4_at j hj4)
      have hq1 : Hid (Rw.Ok wr (cut60 rs[j].q)) := Lib.hid ⟨Lib.hid (by have := hq.len.out; show (List.take 60 _).length = min _ 60; rw [List.length_take]; omega), by have := hq.rd.take 60; rw [← List.map_take] at this; exact this, Nat.le_trans (Nat.min_le_left _ _) hq.le, hq.lec⟩
      have hqz2 := Lib.hid (show 0 < (cut60 rs[j].q).n → ∀ ad, (cut60 rs[j].q).A = some ad → Z ad.block from fun h0 ad e => hqz (by have : 0 < min rs[j].q.n 60 := h0; omega) ad e)
      obtain ⟨f, hf⟩ : ∃ f : FlR, f = ⟨nmA j, cut60 rs[j].q⟩ := ⟨_, rfl⟩
      have hfc : f.cells = [encStr (nmA j), .slice rs[j].q.A (min rs[j].q.n 60) rs[j].q.c] := by rw [hf]; rfl
      rw [← hf] at hgs
      have hfp := Lib.hid (show f.q.Ok wr ∧ f.nm.length ≤ maxLen ∧ (0 < f.q.n → ∀ ad, f.q.A = some ad → Z ad.block) from by
        rw [hf]
        refine ⟨hq1.out, ?_, hqz2.out⟩
        show (nmA j).length ≤ maxLen
        unfold nmA strs4 maxLen
        rcases j with _ | _ | _ | _ | j <;> simp <;> omega)
      have hfc := Lib.hid hfc
      clear hf hq hqz hq1 hqz2
      generalize rs[j].q.n = qn at *
      generalize rs[j].q.A = qA at *
      generalize rs[j].q.c = qc at *
      have hmod : Int.tmod (j : Int) 4 = (j : Int) := Int.tmod_eq_of_lt (by omega) (by omega)
      obtain ⟨m, hm⟩ : ∃ m, m = min qn 60 := ⟨_, rfl⟩
      have hmin : min (qn : Int) 60 = (m : Int) := by omega
      have hmc : m ≤ qc := by omega
      have hfc := Lib.hid (hm ▸ hfc.out)
      clear hm
      go_wp2_with fail
      have HX := Lib.hid (fun W (hW : Gr wr W) => (hW.cell x1 : W.cell? ⟨g, off + j * 2 + 1, none⟩ = some (.slice qA qn qc)))
      clear x0 x1
      refine Vc.wp_region_split ⟨Gr, fun _ => Gr, fun _ W => Gr wr W, []⟩ 21 [] (by kernel_rfl) (by kernel_rfl) (by kernel_rfl) (by decide) (by simp) (by simp) (by simp) (fun _ _ h => h.size) (fun _ _ _ h => h.size) (fun _ _ _ h h' => h'.trans' h) (Gr.draw _) ?_
      repeat
        refine Vc.Walk.pure (v := ?_) (fun _ => Gr.rfl' _) rfl (by first | exact Vc.GuardYes.no rfl | exact Vc.GuardYes.yes rfl rfl) rfl rfl ?_ ?_
        rotate_left
        · intro _ W hI
          (clear hI)
          go_simp
          exact rfl
      refine Vc.Walk.call (.fits (Vc.All fun v W => ∃ g, v = .slice (some ⟨g, 0, none⟩) 4 4 ∧ Row W g 9 (strs4.map encStr))) (Vc.All.stable (fun u W W' hl hf => by obtain ⟨g, e, hR⟩ := hf; exact ⟨g, e, hR.gr hl⟩) (fun _ u W W' _ hl hf => by obtain ⟨g, e, hR⟩ := hf; exact ⟨g, e, hR.gr hl⟩)) (.no rfl) rfl rfl ?_ ?_
      · intro k W hI
        clear hI
        go_simp
        exact ⟨⟨_, rfl, Row.new W _ (strs4.map encStr)⟩, Gr.alloc1 _ _⟩
      repeat
        refine Vc.Walk.pure (v := ?_) (fun _ => Gr.rfl' _) rfl (by first | exact Vc.GuardYes.no rfl | exact Vc.GuardYes.yes rfl rfl) rfl rfl ?_ ?_
        rotate_left
        · intro _ W hI
          (clear hI)
          go_simp
          exact rfl
      refine Vc.Walk.any (.fits (Vc.All fun v W => ∃ g, v = .pointer (some ⟨g, j, none⟩) ∧ Row W g 9 (strs4.map encStr))) (Vc.All.stable (fun u W W' hl hf => by obtain ⟨g, e, hR⟩ := hf; exact ⟨g, e, hR.gr hl⟩) (fun _ u W W' _ hl hf => by obtain ⟨g, e, hR⟩ := hf; exact ⟨g, e, hR.gr hl⟩)) (.no rfl) ?_ ?_
      · intro ρ k W hI hf
        obtain ⟨⟨g, hρ1, hR⟩, hρ2, _⟩ := hf
        have e1 : ρ (.tmp 19) = .slice (some ⟨g, 0, none⟩) 4 4 := hρ1
        have e2 : ρ (.tmp 21) = .int .i64 j := hρ2
        have h5 : (j : Int) < 4 := by omega
        clear hI hρ1 hρ2
        go_simp
        exact ⟨⟨_, rfl, hR⟩, Gr.rfl' _⟩
      refine Vc.Walk.any (.is (encStr (nmA j))) trivial (.no rfl) ?_ ?_
      · intro ρ k W hI hf
        obtain ⟨⟨g, hρ1, hR⟩, _⟩ := hf
        have e1 : ρ (.tmp 22) = .pointer (some ⟨g, j, none⟩) := hρ1
        have hcell : W.cell? ⟨g, j, none⟩ = some (encStr (nmA j)) := (hR.cell j).trans hrow4.out
        clear hI hρ1
        go_simp
        first | exact ⟨rfl, Gr.rfl' _⟩ | exact Gr.rfl' _
      repeat
        refine Vc.Walk.pure (v := ?_) (fun _ => Gr.rfl' _) rfl (by first | exact Vc.GuardYes.no rfl | exact Vc.GuardYes.yes rfl rfl) rfl rfl ?_ ?_
        rotate_left
        · intro _ W hI
          (have y1 := HX.out _ hI.g; clear hI)
          go_simp
          exact rfl
      refine Vc.Walk.call (.fits (Vc.All fun v W => ∃ g, v = .slice (some ⟨g, 0, none⟩) 1 1 ∧ Row W g 31 [encStr (nmA j), .slice qA m qc])) (Vc.All.stable (fun u W W' hl hf => by obtain ⟨g, e, hR⟩ := hf; exact ⟨g, e, hR.gr hl⟩) (fun _ u W W' _ hl hf => by obtain ⟨g, e, hR⟩ := hf; exact ⟨g, e, hR.gr hl⟩)) (.no rfl) rfl rfl ?_ ?_
      · intro k W hI
        clear hI
        go_simp
        exact ⟨⟨_, rfl, Row.new W _ [encStr (nmA j), .slice qA m qc]⟩, Gr.alloc1 _ _⟩
      intro W hW
      have hW : Gr wr W := hW
      simp only [List.reverse_cons, List.reverse_nil, List.nil_append, List.cons_append, Vc.finish, Act.put, List.setIfInBounds_toArray, List.set_cons_zero, List.set_cons_succ]
      rintro u19 _ u22 _ u38 ⟨g38, rfl, hR38⟩ _
      simp only [List.drop_succ_cons, List.drop_zero]
      have hown := Lib.hid (hfl.out.gr hW)
      have hsz := Nat.le_trans hg.size hW.size
      have hR38 := Lib.hid hR38
      go_wp2_with (at_builtin; with_reducible refine wpList_append (o := ⟨some 39, _, _, _, _, _⟩) _ rfl _ _ 22 rfl w.heap.size 31 i0 _ 2 40 Try.underlying22 hi hz0 hz1 hz2 rfl (by omega) A1 j c1 _ rfl hown.out.own _ 1 1 [encStr (nmA j), .slice qA m qc] rfl rfl (Rd.of_row' hR38.out) (by simp [Value.oneCell']) (by omega) (by unfold maxLen; omega) hsz ?_
                   intro A6 c6 w6 ho6 hk6
                   have hq6 := Lib.hid (And.intro ho6 hk6)
                   clear ho6 hk6)
      go_roundw
      case rel =>
        obtain ⟨q1, q2⟩ := hq6.out
        obtain ⟨p1, p2, p3⟩ := hfp.out
        refine ⟨j + 1, by omega, by go_num, A6, c6, rfl, Lib.hid ?_, Gr.grownBk (hg.trans' hW) q2.grown (fun g' e => (hown.out.own.blk g' e).1)⟩
        rw [hgs.out]
        exact hown.out.push (p1.gr hW) p2 (fun h0 ad e => ⟨p3 h0 ad e, fun e2 => by have := (hown.out.own.blk _ e2).1; have := hz _ (p3 h0 ad e); omega, by have := hz _ (p3 h0 ad e); omega⟩) (by rw [hfc.out]; exact q1) q2
      case measure => simp [intOf]; omega
    · obtain rfl : j = min n k := by omega
      have hfz := Lib.hid hfl.out
      clear hfl
      generalize hnk : min n k = m at *
      by_cases hmn : m < n
      · have hmk : ¬ ((m : Int) < k) := by omega
        go_wp2
        go_ret
        try rw [hnk]
        exact ⟨A1, c1, rfl, hfz.out, hg⟩
      · obtain rfl : m = n := by omega
        go_wp2
        go_ret
        try rw [hnk]
        exact ⟨A1, c1, rfl, hfz.out, hg⟩
end
end Go.Proofs.Ytcfbkhgdlgnmgaa
set_option linter.unusedVariables false
set_option linter.unusedSimpArgs false
set_option maxRecDepth 100000
namespace Go.Proofs.Ytcfbkhgdlgnmgaa
open Go.RowKit Go.Maps Go.Sort
attribute [local go_sem] Vc.known_tmp Vc.known_const Vc.known_func Vc.known_global Vc.lk Vc.okUpon Vc.Fact.holds
def wantA (o n : List Fl) (i : Nat) : Str := if i < n.length then (n.getD i default).2 else (o.getD i default).2
def IsM (F : Files) (o n : List Fl) : Prop :=
  (∀ i, i < o.length → F.get (o.getD i default).1 = some (wantA o n i)) ∧ (∀ i, o.length ≤ i → i < n.length → F.get (n.getD i default).1 = some (n.getD i default).2) ∧ F.length = n.length + (o.length - n.length)
section
variable {X Z Z2 : Nat → Prop} {w w' : World} {p : Nat} {s : V} {A B : Option Addr} {rs ts : List FlR}
theorem getD_fl (rs : List FlR) {i : Nat} (h : i < rs.length) : (rs.map FlR.fl).getD i default = (rs[i].nm, rs[i].q.b) := by
  rw [List.getD_eq_getElem?_getD, List.getElem?_map, List.getElem?_eq_getElem h]
  rfl
set_option maxHeartbeats 4000000 in
theorem is_any (h : At w X p s) (hs : Sm s) (hd : s.dead = false) (hf : FlS w Z A rs) (hf2 : FlS w Z2 B ts) (c c2 : Nat) (hl : rs.length ≤ 255) (hl2 : ts.length ≤ 255) :
    Calls Try.prog 20 #[.pointer (some ⟨p, 0, none⟩), .slice A rs.length c, .slice B ts.length c2] w fun e w' => ∃ b : Bool, e = .returned (.bool b) ∧ (b = true ↔ IsM s.now (rs.map FlR.fl) (ts.map FlR.fl)) ∧ Gr w w' := by
  obtain ⟨R, hR⟩ : ∃ R : Bool, (R = true ↔ IsM s.now (rs.map FlR.fl) (ts.map FlR.fl)) := by
    rcases Classical.em (IsM s.now (rs.map FlR.fl) (ts.map FlR.fl)) with h1 | h1
    · exact ⟨true, by simp [h1]⟩
    · exact ⟨false, by simp [h1]⟩
  refine Calls.mono (R := fun e w' => e = .returned (.bool R) ∧ Gr w w') ?_ (fun e w' h => ⟨R, h.1, hR, h.2⟩)
  have hok := h.1
  have HN := Lib.hid (fun W (hg : Gr w W) => names_any (h.gr hg) hs)
  have hnl : s.now.length ≤ 1000000 := Nat.le_trans hok.nowL hs.ops
  obtain ⟨F, hF⟩ : ∃ F, F = s.now := ⟨_, rfl⟩
  have HRd := Lib.hid (fun W (hg : Gr w W) (m : Str) (hm : m.length ≤ maxLen) (x : Str) (hx : F.get m = some x) => show Calls Try.prog 44 #[.pointer (some ⟨p, 0, none⟩), encStr m] W fun e w' => ∃ A' c', e = .returned (.tuple #[.slice A' x.length c', .bool true, .int .i64 0]) ∧ Rd w' A' (x.map bv) ∧ Gr W w' from by
    refine (read_any (h.gr hg) m hm).mono ?_
    rw [show s.read m = (x, true, 0) from by simp [V.read, hd, ← hF, hx]]
    rintro e w' ⟨A', m', c', rfl, hm', ho, hg⟩
    simp only at hm'
    subst hm'
    exact ⟨A', c', rfl, ho.rd, hg⟩)
  have HRn := Lib.hid (fun W (hg : Gr w W) (m : Str) (hm : m.length ≤ maxLen) (hx : F.get m = none) => show Calls Try.prog 44 #[.pointer (some ⟨p, 0, none⟩), encStr m] W fun e w' => ∃ A' n' c', e = .returned (.tuple #[.slice A' n' c', .bool false, .int .i64 0]) ∧ Hid (n' = 0) ∧ Rd w' A' [] ∧ Gr W w' from by
    refine (read_any (h.gr hg) m hm).mono ?_
    rw [show s.read m = ([], false, 0) from by simp [V.read, hd, ← hF, hx]]
    rintro e w' ⟨A', m', c', rfl, hm', ho, hg⟩
    exact ⟨A', m', c', rfl, Lib.hid hm', ho.rd, hg⟩)
  have hR2 : R = true ↔ (∀ i, (hi : i < rs.length) → F.get rs[i].nm = some (if h2 : i < ts.length then ts[i].q.b else rs[i].q.b)) ∧ (∀ i, (hi : i < ts.length) → rs.length ≤ i → F.get ts[i].nm = some ts[i].q.b) ∧ F.length = ts.length + (rs.length - ts.length) := by
    rw [hR, ← hF]
    unfold IsM wantA
    simp only [List.length_map]
    refine and_congr ?_ (and_congr ?_ Iff.rfl)
    · refine forall_congr' fun i => forall_congr' fun hi => ?_
      rw [getD_fl rs hi]
      by_cases h2 : i < ts.length
      · rw [if_pos h2, dif_pos h2, getD_fl ts h2]
      · rw [if_neg h2, dif_neg h2]
    · constructor
      · intro hh i hi hl
        have := hh i hl hi
        rw [getD_fl ts hi] at this
        exact this
      · intro hh i hl hi
        rw [getD_fl ts hi]
        exact hh i hi hl
  rw [← hF] at hnl HN
  have HR2 := Lib.hid hR2
  clear hR2 hR hF hok hs hd
  generalize hn : rs.length = n at hl ⊢
  generalize hk : ts.length = k at hl2 ⊢
  go_enter Try.func20, Try.ntmps20
  go_wp2_with fail
  go_loopw [7, 8] (fun t i wr => ∃ j : Nat, j ≤ n ∧ i = .int .i64 j ∧ t = .int .i64 ((k + (j - k) : Nat) : Int) ∧ Hid (∀ i, (hi : i < rs.length) → i < j → F.get rs[i].nm = some (if h2 : i < ts.length then ts[i].q.b else rs[i].q.b)) ∧ Gr w wr) (fun _ i _ => n - (intOf i).toNat)
  case atStart => exact ⟨0, by omega, rfl, by simp, Lib.hid (fun i h h' => absurd h' (by omega)), Gr.rfl' _⟩
  case round =>
    obtain ⟨j, hj, rfl, rfl, hall, hg⟩ := hrel
    by_cases hlt : j < n
    · have hjl : j < rs.length := by omega
      obtain ⟨g, off, rfl, x0, x1⟩ := (hf.gr hg).at_ hjl
      have hqq := Lib.hid (fun W (hW : Gr wr W) => ((hf.gr hg).gr hW).ok _ (List.getElem_mem hjl))
      have hlen1 := (hf.ok _ (List.getElem_mem hjl)).1.len.out
      have hnm := (hf.ok _ (List.getElem_mem hjl)).2.1
      have hgood := Lib.hid (fun (h1 : F.get rs[j].nm = some (if h2 : j < ts.length then ts[j].q.b else rs[j].q.b)) => show ∀ i, (hi : i < rs.length) → i < j + 1 → F.get rs[i].nm = some (if h2 : i < ts.length then ts[i].q.b else rs[i].q.b) from fun i h h' => by
        by_cases e : i = j
        · subst e; exact h1
        · exact hall.out i h (by omega))
      have hbad := Lib.hid (fun (h1 : F.get rs[j].nm ≠ some (if h2 : j < ts.length then ts[j].q.b else rs[j].q.b)) => show R = false from by
        cases hb : R
        · rfl
        · exact absurd ((HR2.out.1 hb).1 j hjl) h1)
      have HC1 := Lib.hid (fun W (hW : Gr wr W) => run_str (P := Try.prog) (hqq.out W hW).1.rd 29 9 5 rs[j].q.n rs[j].q.c hlen1.symm Try.underlying29 Try.underlying5 Try.underlying9)
      obtain ⟨W0, hW0⟩ : ∃ W0 : Str, W0 = rs[j].q.b := ⟨_, rfl⟩
      by_cases hjk : j < k
      · have hjt : j < ts.length := by omega
        obtain ⟨g2, off2, rfl, z0, z1⟩ := (hf2.gr hg).at_ hjt
        have hqq2 := Lib.hid (fun W (hW : Gr wr W) => ((hf2.gr hg).gr hW).ok _ (List.getElem_mem hjt))
        have hlen2 := (hf2.ok _ (List.getElem_mem hjt)).1.len.out
        have HC2 := Lib.hid (fun W (hW : Gr wr W) => run_str (P := Try.prog) (hqq2.out W hW).1.rd 29 9 5 ts[j].q.n ts[j].q.c hlen2.symm Try.underlying29 Try.underlying5 Try.underlying9)
        rw [dif_pos hjt] at hgood hbad
        rw [← hW0] at HC1
        have hlt2 : (j : Int) < k := by omega
        clear hqq hqq2 hlen1 hlen2 hW0
        generalize rs[j].nm = nm at *
        generalize rs[j].q = q at *
        generalize ts[j].q = q2 at *
        obtain ⟨qA, qn, qc, qb⟩ := q
        obtain ⟨qA2, qn2, qc2, qb2⟩ := q2
        simp only at *
        cases hget : F.get nm with
        | none =>
          have hRf := Lib.hid (hbad.out (by rw [hget]; simp))
          go_wp2_with (go_at_call 44; refine (HRn.out _ hg nm hnm hget).mono ?_; rintro e w2 ⟨A', n', c', rfl, hn', hr', hg2⟩; have hcv1 := HC1.out _ hg2; have hcv2 := HC2.out _ hg2; have y1 := hg2.cell x1; have y3 := hg2.cell z1)
          go_ret
          rw [hRf.out]
          exact ⟨rfl, hg.trans' hg2⟩
        | some x =>
          by_cases hxy : x = qb2
          · have hg3 := Lib.hid (hgood.out (by rw [hget, hxy]))
            subst hxy
            go_wp2_with (go_at_call 44; refine (HRd.out _ hg nm hnm x hget).mono ?_; rintro e w2 ⟨A', c', rfl, hr', hg2⟩; have hcv1 := HC1.out _ hg2; have hcv2 := HC2.out _ hg2; have y1 := hg2.cell x1; have y3 := hg2.cell z1; have hcv3 := run_str (P := Try.prog) hr' 29 9 5 x.length c' rfl Try.underlying29 Try.underlying5 Try.underlying9)
            go_roundw
            case rel => exact ⟨j + 1, by omega, by go_num, (by first | (congr 1; omega) | (unfold wrap64; congr 1; omega)), hg3, hg.trans' hg2⟩
            case measure => simp [intOf]; omega
          · have hRf := Lib.hid (hbad.out (by rw [hget]; intro e; exact hxy (Option.some.inj e)))
            have hxb : (x == qb2) = false := by simpa using hxy
            go_wp2_with (go_at_call 44; refine (HRd.out _ hg nm hnm x hget).mono ?_; rintro e w2 ⟨A', c', rfl, hr', hg2⟩; have hcv1 := HC1.out _ hg2; have hcv2 := HC2.out _ hg2; have y1 := hg2.cell x1; have y3 := hg2.cell z1; have hcv3 := run_str (P := Try.prog) hr' 29 9 5 x.length c' rfl Try.underlying29 Try.underlying5 Try.underlying9)
            go_ret
            rw [hRf.out]
            exact ⟨rfl, hg.trans' hg2⟩
      · rw [dif_neg (by omega)] at hgood hbad
        have hlt2 : ¬ ((j : Int) < k) := by omega
        rw [← hW0] at HC1 hgood hbad
        clear hqq hlen1 hW0
        generalize rs[j].nm = nm at *
        generalize rs[j].q = q at *
        obtain ⟨qA, qn, qc, qb⟩ := q
        simp only at *
        cases hget : F.get nm with
        | none =>
          have hRf := Lib.hid (hbad.out (by rw [hget]; simp))
          go_wp2_with (go_at_call 44; refine (HRn.out _ hg nm hnm hget).mono ?_; rintro e w2 ⟨A', n', c', rfl, hn', hr', hg2⟩; have hcv1 := HC1.out _ hg2; have hcv2 := trivial; have y1 := hg2.cell x1)
          go_ret
          rw [hRf.out]
          exact ⟨rfl, hg.trans' hg2⟩
        | some x =>
          by_cases hxy : x = W0
          · have hg3 := Lib.hid (hgood.out (by rw [hget, hxy]))
            subst hxy
            go_wp2_with (go_at_call 44; refine (HRd.out _ hg nm hnm x hget).mono ?_; rintro e w2 ⟨A', c', rfl, hr', hg2⟩; have hcv1 := HC1.out _ hg2; have hcv2 := trivial; have y1 := hg2.cell x1; have hcv3 := run_str (P := Try.prog) hr' 29 9 5 x.length c' rfl Try.underlying29 Try.underlying5 Try.underlying9)
            go_roundw
            case rel => exact ⟨j + 1, by omega, by go_num, (by first | (congr 1; omega) | (unfold wrap64; congr 1; omega)), hg3, hg.trans' hg2⟩
            case measure => simp [intOf]; omega
          · have hRf := Lib.hid (hbad.out (by rw [hget]; intro e; exact hxy (Option.some.inj e)))
            have hxb : (x == W0) = false := by simpa using hxy
            go_wp2_with (go_at_call 44; refine (HRd.out _ hg nm hnm x hget).mono ?_; rintro e w2 ⟨A', c', rfl, hr', hg2⟩; have hcv1 := HC1.out _ hg2; have hcv2 := trivial; have y1 := hg2.cell x1; have hcv3 := run_str (P := Try.prog) hr' 29 9 5 x.length c' rfl Try.underlying29 Try.underlying5 Try.underlying9)
            go_ret
            rw [hRf.out]
            exact ⟨rfl, hg.trans' hg2⟩
    · obtain rfl : j = n := by omega
      have hall2 := Lib.hid hall.out
      clear hall
      go_wp2_with fail
      go_loopw [13] (fun i wr2 => ∃ l : Nat, j ≤ l ∧ (l ≤ k ∨ l = j) ∧ i = .int .i64 l ∧ Hid (∀ i, (hi : i < ts.length) → j ≤ i → i < l → F.get ts[i].nm = some ts[i].q.b) ∧ Gr w wr2) (fun i _ => k - (intOf i).toNat)
      case atStart => exact ⟨j, by omega, .inr rfl, rfl, Lib.hid (fun i h h1 h2 => absurd h1 (by omega)), hg⟩
      case round =>
        obtain ⟨l, hjl, hlk, rfl, hal3, hg⟩ := hrel
        by_cases hlt : l < k
        · have hlt2 : (l : Int) < k := by omega
          have hll : l < ts.length := by omega
          obtain ⟨g, off, rfl, x0, x1⟩ := (hf2.gr hg).at_ hll
          have hqq := Lib.hid (fun W (hW : Gr wr W) => ((hf2.gr hg).gr hW).ok _ (List.getElem_mem hll))
          have hlen1 := (hf2.ok _ (List.getElem_mem hll)).1.len.out
          have hnm := (hf2.ok _ (List.getElem_mem hll)).2.1
          have hgood := Lib.hid (fun (h1 : F.get ts[l].nm = some ts[l].q.b) => show ∀ i, (hi : i < ts.length) → j ≤ i → i < l + 1 → F.get ts[i].nm = some ts[i].q.b from fun i h h' h'' => by
            by_cases e : i = l
            · subst e; exact h1
            · exact hal3.out i h h' (by omega))
          have hbad := Lib.hid (fun (h1 : F.get ts[l].nm ≠ some ts[l].q.b) => show R = false from by
            cases hb : R
            · rfl
            · exact absurd ((HR2.out.1 hb).2.1 l hll (by omega)) h1)
          have HC1 := Lib.hid (fun W (hW : Gr wr W) => run_str (P := Try.prog) (hqq.out W hW).1.rd 29 9 5 ts[l].q.n ts[l].q.c hlen1.symm Try.underlying29 Try.underlying5 Try.underlying9)
          clear hqq hlen1
          generalize ts[l].nm = nm at *
          generalize ts[l].q = q at *
          obtain ⟨qA, qn, qc, qb⟩ := q
          simp only at *
          cases hget : F.get nm with
          | none =>
            have hRf := Lib.hid (hbad.out (by rw [hget]; simp))
            go_wp2_with (go_at_call 44; refine (HRn.out _ hg nm hnm hget).mono ?_; rintro e w2 ⟨A', n', c', rfl, hn', hr', hg2⟩; have hcv1 := HC1.out _ hg2; have y1 := hg2.cell x1)
            go_quiet (fail)
            go_wp2
            go_ret
            rw [hRf.out]
            exact ⟨rfl, hg.trans' (hg2.trans' (Gr.drawN _ _))⟩
          | some x =>
            by_cases hxy : x = qb
            · have hg3 := Lib.hid (hgood.out (by rw [hget, hxy]))
              subst hxy
              go_wp2_with (go_at_call 44; refine (HRd.out _ hg nm hnm x hget).mono ?_; rintro e w2 ⟨A', c', rfl, hr', hg2⟩; have y1 := hg2.cell x1)
              replace hr' := Lib.hid hr'
              replace y1 := Lib.hid y1
              refine Vc.wp_region_facts ⟨Gr, fun _ => Gr, fun _ W => Gr w2 W, []⟩ (by kernel_rfl) (by kernel_rfl) (fun _ _ _ h h' => h'.trans' h) (Gr.draw _) ?_
              repeat
                refine Vc.Walk.pure (v := ?_) (fun _ => Gr.rfl' _) rfl (by first | exact Vc.GuardYes.no rfl | exact Vc.GuardYes.yes rfl rfl) rfl rfl ?_ ?_
                rotate_left
                · intro _ W hI
                  (have y2 := hI.g.cell y1.out; have hcv1 := HC1.out _ (hg2.trans' hI.g); have hcv3 := run_str (P := Try.prog) (hr'.out.gr hI.g) 29 9 5 x.length c' rfl Try.underlying29 Try.underlying5 Try.underlying9; clear hI)
                  go_simp
                  exact rfl
              intro W hW
              have hW : Gr w2 W := hW
              simp only [List.reverse_cons, List.reverse_nil, List.nil_append, List.cons_append, Vc.finish, Act.put, List.setIfInBounds_toArray, List.set_cons_zero, List.set_cons_succ]
              go_wp2
              go_roundw
              case rel => exact ⟨l + 1, by omega, .inl (by omega), by go_num, Lib.hid (fun i hi => hg3.out i (by omega)), hg.trans' (hg2.trans' hW)⟩
              case measure => simp [intOf]; omega
            · have hRf := Lib.hid (hbad.out (by rw [hget]; intro e; exact hxy (Option.some.inj e)))
              have hxb : (x == qb) = false := by simpa using hxy
              go_wp2_with (go_at_call 44; refine (HRd.out _ hg nm hnm x hget).mono ?_; rintro e w2 ⟨A', c', rfl, hr', hg2⟩; have y1 := hg2.cell x1)
              replace hr' := Lib.hid hr'
              replace y1 := Lib.hid y1
              refine Vc.wp_region_facts ⟨Gr, fun _ => Gr, fun _ W => Gr w2 W, []⟩ (by kernel_rfl) (by kernel_rfl) (fun _ _ _ h h' => h'.trans' h) (Gr.draw _) ?_
              repeat
                refine Vc.Walk.pure (v := ?_) (fun _ => Gr.rfl' _) rfl (by first | exact Vc.GuardYes.no rfl | exact Vc.GuardYes.yes rfl rfl) rfl rfl ?_ ?_
                rotate_left
                · intro _ W hI
                  (have y2 := hI.g.cell y1.out; have hcv1 := HC1.out _ (hg2.trans' hI.g); have hcv3 := run_str (P := Try.prog) (hr'.out.gr hI.g) 29 9 5 x.length c' rfl Try.underlying29 Try.underlying5 Try.underlying9; clear hI)
                  go_simp
                  exact rfl
              intro W hW
              have hW : Gr w2 W := hW
              simp only [List.reverse_cons, List.reverse_nil, List.nil_append, List.cons_append, Vc.finish, Act.put, List.setIfInBounds_toArray, List.set_cons_zero, List.set_cons_succ]
              go_wp2
              go_ret
              rw [hRf.out]
              exact ⟨rfl, hg.trans' (hg2.trans' hW)⟩
        · have hlt2 : ¬ ((l : Int) < k) := by omega
          have hRt := Lib.hid (show R = true ↔ F.length = k + (j - k) from by
            constructor
            · intro h
              have := (HR2.out.1 h).2.2
              omega
            · exact fun h => HR2.out.2 ⟨fun i hi => hall2.out i hi (by omega), fun i hi h1 => hal3.out i hi (by omega) (by omega), by omega⟩)
          clear HR2 hall2 hal3 HRd HRn
          have HN2 := Lib.hid (HN.out _ hg)
          clear HN
          generalize hFl : F.length = fl at *
          by_cases hfl : fl = k + (j - k)
          · have hRR := Lib.hid (hRt.out.2 hfl)
            have hbe : ((fl : Int) == (k : Int) + ((j - k : Nat) : Int)) = true := by simp; omega
            have hbe2 : (fl : Int) = (k : Int) + ((j - k : Nat) : Int) := by omega
            clear hRt
            go_wp2_with (go_at_call 23; refine HN2.out.mono ?_; rintro e w2 ⟨A', n', c', rfl, hn', _, hg2⟩; subst hn')
            go_ret
            rw [hRR.out]
            exact ⟨rfl, hg.trans' hg2⟩
          · have hRR := Lib.hid (show R = false from by cases hb : R; rfl; exact absurd (hRt.out.1 hb) hfl)
            clear hRt
            go_wp2_with (go_at_call 23; refine HN2.out.mono ?_; rintro e w2 ⟨A', n', c', rfl, hn', _, hg2⟩; subst hn')
            go_ret
            rw [hRR.out]
            refine ⟨?_, hg.trans' hg2⟩
            simp
            omega
end
end Go.Proofs.Ytcfbkhgdlgnmgaa
set_option linter.unusedVariables false
set_option linter.unusedSimpArgs false
namespace Go.Proofs.Ytcfbkhgdlgnmgaa
open Go.RowKit Cd
structure Gd (l : List Fl) : Prop where
  nm : l.map (·.1) = strs4.take l.length
  ln : l.length ≤ 4
  sm : ∀ f ∈ l, f.2.length ≤ 60
theorem goodR_map (rs : List FlR) {n : Nat} (h : n ≤ 4) : Gd ((goodR rs n).map FlR.fl) := by
  have hl : ((goodR rs n).map FlR.fl).length = n := by rw [List.length_map, goodR_len]
  refine ⟨?_, by rw [hl]; exact h, fun f hf => ?_⟩
  · rw [hl]
    refine List.ext_getElem? (fun i => ?_)
    unfold goodR nmA
    rw [List.map_map, List.map_map, List.getElem?_map, List.getElem?_take]
    by_cases hi : i < n
    · rw [List.getElem?_range hi, if_pos hi]
      show some (strs4.getD i []) = _
      rw [List.getD_eq_getElem?_getD, List.getElem?_eq_getElem (show i < strs4.length by show i < 4; omega)]
      rfl
    · rw [if_neg hi, List.getElem?_eq_none (by simp; omega)]
      rfl
  · obtain ⟨g, hg, rfl⟩ := List.mem_map.1 hf
    unfold goodR at hg
    obtain ⟨i, hi, rfl⟩ := List.mem_map.1 hg
    show (List.take 60 _).length ≤ 60
    rw [List.length_take]
    omega
theorem Gd.nil : Gd [] := ⟨rfl, by simp, fun f hf => by cases hf⟩
theorem strs4_rising : strs4.Pairwise fun x y => bytesBefore x y = true := by decide
theorem rising_names {l : List Fl} {n : Nat} (h : l.map (·.1) = strs4.take n) : Files.Rising l := by
  have h1 : (l.map (·.1)).Pairwise fun x y => bytesBefore x y = true := by rw [h]; exact strs4_rising.sublist (List.take_sublist _ _)
  exact List.pairwise_map.1 h1
theorem Gd.rising {l : List Fl} (h : Gd l) : Files.Rising l := rising_names h.nm
theorem Gd.mem {l : List Fl} (h : Gd l) {f : Fl} (hf : f ∈ l) : f.1 ∈ strs4 := by
  have : f.1 ∈ l.map (·.1) := List.mem_map.2 ⟨f, hf, rfl⟩
  rw [h.nm] at this
  exact List.mem_of_mem_take this
theorem Gd.nodup {l : List Fl} (h : Gd l) : (l.map (·.1)).Nodup := by
  rw [h.nm]
  exact (by decide : strs4.Nodup).sublist (List.take_sublist _ _)
theorem strs4_ok : ∀ n ∈ strs4, nameBad n = false ∧ n ≠ jn ∧ n ≠ mk ∧ n.length ≤ 1 := by decide
theorem mayGo_ok : ∀ (l : List Fl) (seen : List Str), (∀ f ∈ l, nameBad f.1 = false ∧ f.2.length ≤ 8000) → (l.map (·.1)).Nodup → (∀ f ∈ l, f.1 ∉ seen) → mayGo seen l = 0
  | [], _, _, _, _ => rfl
  | (n, b) :: l, seen, h1, h2, h3 => by
    rw [List.map_cons, List.nodup_cons] at h2
    have h4 := h1 (n, b) (by simp)
    have h5 := h3 (n, b) (by simp)
    simp only at h4 h5
    unfold mayGo
    rw [if_neg (by simp [h4.1]), if_neg h5, if_neg (by omega)]
    refine mayGo_ok l _ (fun f hf => h1 f (by simp [hf])) h2.2 (fun f hf hm => ?_)
    rcases List.mem_append.1 hm with hm | hm
    · exact h3 f (by simp [hf]) hm
    · obtain e := List.mem_singleton.1 hm
      exact h2.1 (List.mem_map.2 ⟨f, hf, e⟩)
theorem Gd.may {l : List Fl} (h : Gd l) (h1 : 1 ≤ l.length) : mayM l = 0 := by
  unfold mayM
  have := h.ln
  rw [if_neg (by omega)]
  exact mayGo_ok l [] (fun f hf => ⟨(strs4_ok _ (h.mem hf)).1, by have := h.sm f hf; omega⟩) h.nodup (by simp)
theorem Gd.bytes {l : List Fl} (h : Gd l) : (bytesM l).length ≤ 700 := by
  have key : ∀ (l : List Fl), (∀ f ∈ l, f.1.length ≤ 20 ∧ f.2.length ≤ 60) → (l.flatMap fun f => textB f.1 ++ textB f.2).length ≤ l.length * 84 := by
    intro l
    induction l with
    | nil => simp
    | cons f l ih =>
      intro hh
      have h1 := ih (fun g hg => hh g (by simp [hg]))
      have h2 := hh f (by simp)
      rw [List.flatMap_cons, List.length_append, List.length_append, textB_length (by omega), textB_length (by omega), List.length_cons]
      omega
  have := key l (fun f hf => ⟨by have := (strs4_ok _ (h.mem hf)).2.2.2; omega, h.sm f hf⟩)
  have := h.ln
  unfold bytesM
  rw [List.length_cons]
  omega
theorem sum_le {α : Type} (g : α → Nat) (M : Nat) : ∀ l : List α, (∀ x ∈ l, g x ≤ M) → (l.map g).sum ≤ l.length * M
  | [], _ => by simp
  | x :: l, h => by
    have h1 := sum_le g M l (fun y hy => h y (by simp [hy]))
    have h2 := h x (by simp)
    rw [List.map_cons, List.sum_cons, List.length_cons, Nat.add_mul]
    omega
theorem Gd.used {l : List Fl} (h : Gd l) : Files.used l ≤ 240 := by
  have := sum_le (fun p : Str × Str => p.2.length) 60 l h.sm
  have := h.ln
  unfold Files.used
  omega
theorem Gd.grow {l : List Fl} (h : Gd l) (F : Files) : growF F l ≤ 240 := by
  have := sum_le (fun f : Fl => f.2.length - ((F.get f.1).getD []).length) 60 l (fun f hf => by have := h.sm f hf; omega)
  have := h.ln
  unfold growF
  omega
def bothF (old now : List Fl) : Files := now ++ old.drop now.length
theorem bothF_nil2 (now : List Fl) : bothF [] now = now := by simp [bothF]
theorem both_names {old now : List Fl} (h1 : Gd old) (h2 : Gd now) : (bothF old now).map (·.1) = strs4.take (max now.length old.length) := by
  unfold bothF
  rw [List.map_append, List.map_drop, h1.nm, h2.nm]
  rcases Nat.le_total now.length old.length with h | h
  · rw [Nat.max_eq_right h]
    have := List.take_append_drop now.length (strs4.take old.length)
    rw [List.take_take, Nat.min_eq_left h] at this
    exact this
  · rw [Nat.max_eq_left h, List.drop_eq_nil_of_le (by rw [List.length_take]; omega), List.append_nil]
theorem Gd.both {old now : List Fl} (h1 : Gd old) (h2 : Gd now) : Gd (bothF old now) := by
  have hl : (bothF old now).length = max now.length old.length := by
    unfold bothF
    rw [List.length_append, List.length_drop]
    omega
  refine ⟨by rw [both_names h1 h2, hl], by rw [hl]; have := h1.ln; have := h2.ln; omega, fun f hf => ?_⟩
  rcases List.mem_append.1 hf with hf | hf
  · exact h2.sm f hf
  · exact h1.sm f (List.mem_of_mem_drop hf)
theorem putAll_both {old now : List Fl} (h1 : Gd old) (h2 : Gd now) : putAll old now = bothF old now := by
  have hb := (h1.both h2).rising
  refine files_ext (putAll_rising now h1.rising) hb (fun n => ?_)
  by_cases hn : n ∈ now.map (·.1)
  · obtain ⟨f, hf, rfl⟩ := List.mem_map.1 hn
    rw [putAll_in now h1.rising h2.nodup f hf]
    exact (get_of_mem hb (show (f.1, f.2) ∈ _ from List.mem_append_left _ hf)).symm
  · rw [putAll_out now h1.rising hn]
    cases hg : Files.get old n with
    | some x =>
      have hm := get_some hg
      refine (get_of_mem hb (List.mem_append_right _ ?_)).symm
      rw [← List.take_append_drop now.length old] at hm
      rcases List.mem_append.1 hm with hm | hm
      · exfalso
        apply hn
        have h3 : n ∈ (old.take now.length).map (·.1) := List.mem_map.2 ⟨_, hm, rfl⟩
        rw [List.map_take, h1.nm, List.take_take] at h3
        rw [h2.nm]
        rcases Nat.le_total now.length old.length with h | h
        · rwa [Nat.min_eq_left h] at h3
        · rw [Nat.min_eq_right h] at h3
          exact (List.take_sublist_take_left h).subset h3
      · exact hm
    | none =>
      symm
      rw [get_none] at hg ⊢
      intro p hp e
      rcases List.mem_append.1 hp with hp | hp
      · exact hn (List.mem_map.2 ⟨p, hp, e⟩)
      · exact hg p (List.mem_of_mem_drop hp) e
theorem isM_both {old now : List Fl} (h1 : Gd old) (h2 : Gd now) : IsM (bothF old now) old now := by
  have hb := (h1.both h2).rising
  have hnm : ∀ (l : List Fl) (h : Gd l) i, i < l.length → (l.getD i default).1 = nmA i := fun l h i hi => by
    have := congrArg (fun x => x.getD i []) h.nm
    simp only [List.getD_eq_getElem?_getD, List.getElem?_map, List.getElem?_take, if_pos hi, List.getElem?_eq_getElem hi, Option.map_some, Option.getD_some] at this ⊢
    rw [this]
    unfold nmA
    rw [List.getD_eq_getElem?_getD]
  have hin : ∀ (l : List Fl) i, i < l.length → l.getD i default ∈ l := fun l i hi => by
    rw [List.getD_eq_getElem?_getD, List.getElem?_eq_getElem hi]
    exact List.getElem_mem hi
  refine ⟨fun i hi => ?_, fun i h3 hi => ?_, ?_⟩
  · unfold wantA
    by_cases hk : i < now.length
    · rw [if_pos hk, hnm old h1 i hi, ← hnm now h2 i hk]
      exact get_of_mem hb (List.mem_append_left _ (hin now i hk))
    · rw [if_neg hk]
      refine get_of_mem hb (List.mem_append_right _ ?_)
      rw [List.getD_eq_getElem?_getD, List.getElem?_eq_getElem hi]
      show old[i] ∈ _
      have := List.getElem_mem (l := old.drop now.length) (n := i - now.length) (by rw [List.length_drop]; omega)
      rw [List.getElem_drop] at this
      simpa [show now.length + (i - now.length) = i by omega] using this
  · exact get_of_mem hb (List.mem_append_left _ (hin now i hi))
  · unfold bothF
    rw [List.length_append, List.length_drop]
theorem Gd.get_out {l : List Fl} (h : Gd l) {n : Str} (hn : n ∉ strs4) : Files.get l n = none := by
  rw [get_none]
  intro p hp e
  exact hn (e ▸ h.mem hp)
theorem jn4 : jn ∉ strs4 := by decide
theorem mk4 : mk ∉ strs4 := by decide
theorem clean_new (r : Int) : Clean [] (V.new r) := ⟨rfl, rfl, rfl, rfl, List.Pairwise.nil⟩
theorem commit_good {old now : List Fl} {v : V} (h : Clean old v) (h1 : Gd old) (h2 : Gd now) (hn : 1 ≤ now.length) (hr : 1500 ≤ v.room) (hs : v.stop = 0) :
    ∃ v', commitM v now = (v', 0) ∧ Clean (bothF old now) v' ∧ v'.room = v.room ∧ v'.ops = v.ops + now.length + 9 ∧ v'.stop = 0 := by
  have hb := h2.bytes
  have hu := h1.used
  have hg := h2.grow old
  rcases commit_stage (M := 60) h (h2.may hn) (h1.get_out jn4) (h1.get_out mk4) (by omega) (fun n x _ hx => h1.sm _ (get_some hx)) h2.sm with ⟨k1, k2, k3, k4, k5⟩ | ⟨k1, _⟩
  · rw [putAll_both h1 h2] at k2
    exact ⟨(commitM v now).1, by rw [← k1], k2, k3, k4, k5 hs⟩
  · exact absurd hs k1
theorem recover_good {old : List Fl} {v : V} (h : Clean old v) (h1 : Gd old) : recoverM v = (v, 0) := by
  unfold recoverM
  rw [h.live, if_neg Bool.false_ne_true, h.now, h1.get_out mk4, h1.get_out jn4]
end Go.Proofs.Ytcfbkhgdlgnmgaa
set_option linter.unusedVariables false
set_option linter.unusedSimpArgs false
set_option maxRecDepth 100000
namespace Go.Proofs.Ytcfbkhgdlgnmgaa
open Go.RowKit
section
variable {X : Nat → Prop} {w0 W : World} {p : Nat} {s v' : V} {e0 : Int} {A B : Option Addr} {rs ts : List FlR}
theorem sv_commit (hS : Sv w0 W X p s) (hd : Sd s) (hf : FlS w0 (fun i => i < w0.heap.size) A rs) (n c : Nat) (hn : rs.length = n) (hl : n ≤ 255) (hc : n ≤ c) (hb : ∀ f ∈ rs, f.q.n ≤ 1000000) (he : commitM s (rs.map FlR.fl) = (v', e0)) :
    Calls Try.prog 19 #[.pointer (some ⟨p, 0, none⟩), .slice A n c] W fun e W' => e = .returned (.int .i64 e0) ∧ ∃ X', Sv w0 W' X' p v' := by
  subst hn
  refine (commit_any hS.at_ hd (hf.gr hS.gr) (fun i hi => ⟨fun hx => by have := hS.hi i hx; omega, Nat.lt_of_lt_of_le hi hS.gr.size⟩) c hl hc hb).mono ?_
  rintro e W' ⟨rfl, X', ha, hm⟩
  rw [he] at ha ⊢
  exact ⟨rfl, X', hS.step ha hm⟩
theorem sv_recover (hS : Sv w0 W X p s) (hd : Sc s) (he : recoverM s = (v', e0)) :
    Calls Try.prog 22 #[.pointer (some ⟨p, 0, none⟩)] W fun e W' => e = .returned (.int .i64 e0) ∧ ∃ X', Sv w0 W' X' p v' := by
  refine (recover_any hS.at_ hd).mono ?_
  rintro e W' ⟨rfl, X', ha, hm⟩
  rw [he] at ha ⊢
  exact ⟨rfl, X', hS.step ha hm⟩
theorem sv_is (hS : Sv w0 W X p s) (hs : Sm s) (hd : s.dead = false) (hf : FlS w0 (fun i => i < w0.heap.size) A rs) (hf2 : FlS w0 (fun i => i < w0.heap.size) B ts) (n m c c2 : Nat) (hn : rs.length = n) (hm : ts.length = m) (hl : n ≤ 255) (hl2 : m ≤ 255) :
    Calls Try.prog 20 #[.pointer (some ⟨p, 0, none⟩), .slice A n c, .slice B m c2] W fun e W' => ∃ b : Bool, e = .returned (.bool b) ∧ (b = true ↔ IsM s.now (rs.map FlR.fl) (ts.map FlR.fl)) ∧ Sv w0 W' X p s := by
  subst hn
  subst hm
  refine (is_any hS.at_ hs hd (hf.gr hS.gr) (hf2.gr hS.gr) c c2 hl hl2).mono ?_
  rintro e W' ⟨b, rfl, hb, hg⟩
  exact ⟨b, rfl, hb, hS.more hg⟩
theorem sv_is_true (hS : Sv w0 W X p s) (hs : Sm s) (hd : s.dead = false) (hf : FlS w0 (fun i => i < w0.heap.size) A rs) (hf2 : FlS w0 (fun i => i < w0.heap.size) B ts) (n m c c2 : Nat) (hn : rs.length = n) (hm : ts.length = m) (hl : n ≤ 255) (hl2 : m ≤ 255) (hi : IsM s.now (rs.map FlR.fl) (ts.map FlR.fl)) :
    Calls Try.prog 20 #[.pointer (some ⟨p, 0, none⟩), .slice A n c, .slice B m c2] W fun e W' => e = .returned (.bool true) ∧ Sv w0 W' X p s := by
  refine (sv_is hS hs hd hf hf2 n m c c2 hn hm hl hl2).mono ?_
  rintro e W' ⟨b, rfl, hb, hg⟩
  rw [hb.2 hi]
  exact ⟨rfl, hg⟩
theorem sv_new (r : Int) (w : World) : Calls Try.prog 16 #[.int .i64 r] w fun e w' => ∃ p X, e = .returned (.pointer (some ⟨p, 0, none⟩)) ∧ Sv w w' X p (V.new r) := by
  refine (new_any r w).mono ?_
  rintro e w1 ⟨p, X, rfl, ha, hg, hx⟩
  exact ⟨p, X, rfl, Sv.new ha hg hx⟩
theorem good_new (h : FlS W (fun i => i < W.heap.size) A rs) (n c : Nat) (hn : rs.length = n) (k : Nat) (hk : k ≤ 4) (hl : n ≤ 10) :
    Calls Try.prog 12 #[.slice A n c, .int .i64 k] W fun e w' => ∃ A' c' gs, e = .returned (.slice A' (min n k) c') ∧ gs.length = min n k ∧ min n k ≤ c' ∧ FlS w' (fun i => i < w'.heap.size) A' gs ∧ Gd (gs.map FlR.fl) ∧ (∀ f ∈ gs, f.q.n ≤ 60) ∧ Gr W w' := by
  subst hn
  refine (good_any h (fun i hi => hi) c k hk (by unfold maxLen; omega)).mono ?_
  rintro e w' ⟨A', c', rfl, hf, hg⟩
  refine ⟨A', c', _, rfl, goodR_len _ _, hf.own.le.1, hf.fls.mono (fun i hi => hi.2), goodR_map rs (by omega), fun f hf' => ?_, hg⟩
  unfold goodR at hf'
  obtain ⟨i, _, rfl⟩ := List.mem_map.1 hf'
  exact Nat.min_le_right _ _
end
end Go.Proofs.Ytcfbkhgdlgnmgaa
set_option linter.unusedVariables false
set_option linter.unusedSimpArgs false
set_option maxRecDepth 100000
namespace Go.Proofs.Ytcfbkhgdlgnmgaa.commitTwice
open Go.RowKit
set_option maxHeartbeats 4000000 in
theorem walk (W : World) (a0 : Option Addr) (n0 c0 : Nat) (x0 : List FlR) (hn0 : Hid (x0.length = n0)) (hf0 : FlS W (fun i => i < W.heap.size) a0 x0) (hl0 : n0 ≤ c0) (hc0 : c0 ≤ maxLen)
    (a1 : Option Addr) (n1 c1 : Nat) (x1 : List FlR) (hn1 : Hid (x1.length = n1)) (hf1 : FlS W (fun i => i < W.heap.size) a1 x1) (hl1 : n1 ≤ c1) (hc1 : c1 ≤ maxLen) :
    Calls Try.prog 5 #[.slice a0 n0 c0, .slice a1 n1 c1] W fun e W' => e = .returned (.bool true) ∧ Gr W W' := by
  have hn := hn0.out
  have hm : n0 ≤ maxLen := Nat.le_trans hl0 hc0
  have hn' := hn1.out
  have hm' : n1 ≤ maxLen := Nat.le_trans hl1 hc1
  have HK := Lib.hid (known_any W)
  have HF := Lib.hid (fun W1 (hg : Gr W W1) => hn ▸ few_any (hf0.gr hg) c0 (by omega))
  have HF' := Lib.hid (fun W1 (hg : Gr W W1) => hn' ▸ few_any (hf1.gr hg) c1 (by omega))
  have HG := Lib.hid (fun W1 (hg : Gr W W1) (hl : n0 ≤ 10) => good_new ((hf0.gr hg).mono (fun i hi => Nat.lt_of_lt_of_le hi hg.size)) n0 c0 hn 4 (by omega) hl)
  have HG' := Lib.hid (fun W1 (hg : Gr W W1) (hl : n1 ≤ 10) => good_new ((hf1.gr hg).mono (fun i hi => Nat.lt_of_lt_of_le hi hg.size)) n1 c1 hn' 4 (by omega) hl)
  have hfew : FewM x0 → n0 ≤ 10 := fun h => by have := h.2; omega
  have hfew' : FewM x1 → n1 ≤ 10 := fun h => by have := h.2; omega
  clear hn hf0 hn0 hn' hf1 hn1
  by_cases hfw : FewM x0
  · have hle := hfew hfw
    have hdt : decide (FewM x0) = true := decide_eq_true hfw
    rw [hdt] at HF
    clear hfw hdt hfew
    by_cases hfw : FewM x1
    · have hle' := hfew' hfw
      have hdt : decide (FewM x1) = true := decide_eq_true hfw
      rw [hdt] at HF'
      clear hfw hdt hfew'
      by_cases h0 : n0 = 0
      · subst h0
        go_enter Try.func5, Try.ntmps5
        go_wp2_with (first
          | (go_at_call 10; refine HK.out.mono ?_; rintro e w1 ⟨rfl, hg1⟩)
          | (go_at_call 11; refine (HF'.out _ hg2.out).mono ?_; rintro e w3 ⟨rfl, hw3⟩; subst hw3)
          | (go_at_call 11; refine (HF.out _ hg1).mono ?_; rintro e w2 ⟨rfl, hw2⟩; subst hw2; have hg2 := Lib.hid hg1))
        go_ret
        exact ⟨rfl, hg1⟩
      · have h0' : (n0 == 0) = false := by simpa using h0
        have h0'' : ((n0 : Int) == 0) = false := by simp; omega
        by_cases h1 : n1 = 0
        · subst h1
          go_enter Try.func5, Try.ntmps5
          go_wp2_with (first
            | (go_at_call 10; refine HK.out.mono ?_; rintro e w1 ⟨rfl, hg1⟩)
            | (go_at_call 11; refine (HF'.out _ hg2.out).mono ?_; rintro e w3 ⟨rfl, hw3⟩; subst hw3)
            | (go_at_call 11; refine (HF.out _ hg1).mono ?_; rintro e w2 ⟨rfl, hw2⟩; subst hw2; have hg2 := Lib.hid hg1))
          go_ret
          exact ⟨rfl, hg1⟩
        · have h1' : (n1 == 0) = false := by simpa using h1
          have h1'' : ((n1 : Int) == 0) = false := by simp; omega
          have HG2 := Lib.hid (fun W1 hg => HG.out W1 hg hle)
          have HG2' := Lib.hid (fun W1 hg => HG'.out W1 hg hle')
          have HN := Lib.hid (sv_new 5000)
          clear HG HG'
          go_enter Try.func5, Try.ntmps5
          go_wp2_with (first
            | (go_at_call 10; refine HK.out.mono ?_; rintro e w1 ⟨rfl, hg1⟩; replace hg1 := Lib.hid hg1)
            | (go_at_call 11; refine (HF'.out _ hg2.out).mono ?_; rintro e w3 ⟨rfl, hw3⟩; subst hw3)
            | (go_at_call 11; refine (HF.out _ hg1.out).mono ?_; rintro e w2 ⟨rfl, hw2⟩; subst hw2; have hg2 := hg1)
            | (go_at_call 12; refine (HG2'.out _ hg3.out).mono ?_; rintro e w4 ⟨A4, c4, hs, rfl, hgl, hc3, hf3, hgd, hgb, hg4⟩
               generalize hk : min n1 4 = k' at *
               have hk1' := Lib.hid (show 1 ≤ k' ∧ k' ≤ 4 by omega)
               have hk4' : k' ≤ 4 := by omega
               have hF4 := Lib.hid (And.intro hgl (And.intro hc3 (And.intro hf3 (And.intro hgd hgb))))
               have hg34 := Lib.hid hg4
               clear hgl hc3 hf3 hgd hgb hk hg4)
            | (go_at_call 12; refine (HG2.out _ hg1.out).mono ?_; rintro e w3 ⟨A3, c3, gs, rfl, hgl, hc3, hf3, hgd, hgb, hg3⟩
               generalize hk : min n0 4 = k at *
               have hk1 := Lib.hid (show 1 ≤ k ∧ k ≤ 4 by omega)
               have hk4 : k ≤ 4 := by omega
               have hF3 := Lib.hid (And.intro hgl (And.intro hc3 (And.intro hf3 (And.intro hgd hgb))))
               replace hg3 := Lib.hid (hg1.out.trans' hg3)
               clear hgl hc3 hf3 hgd hgb hk)
            | (go_at_call 16; refine (HN.out _).mono ?_; rintro e w5 ⟨p, X5, rfl, hS5⟩
               obtain ⟨hgl, hc3, hf3, hgd, hgb⟩ := hF3.out
               obtain ⟨hgl', hc3', hf3', hgd', hgb'⟩ := hF4.out
               have hf34 := (hf3.gr hg34.out).mono (fun i hi => Nat.lt_of_lt_of_le hi hg34.out.size)
               obtain ⟨v1, e1, q1, hr1, ho1, hs1⟩ := commit_good (clean_new 5000) Gd.nil hgd (by rw [List.length_map]; have := hk1.out; omega) (by decide) rfl
               rw [bothF_nil2] at q1
               rw [List.length_map, hgl] at ho1
               obtain ⟨v2, e2, q2, hr2, ho2, hs2⟩ := commit_good q1 hgd hgd' (by rw [List.length_map]; have := hk1'.out; omega) (by rw [hr1]; decide) hs1
               rw [List.length_map, hgl'] at ho2
               have ho1' : v1.ops = 0 + k + 9 := ho1
               have HC := Lib.hid (sv_commit hS5 ⟨Nat.zero_le _, Nat.zero_le _⟩ hf34 _ c3 hgl (by have := hk1.out; omega) hc3 (fun f hf => by have := hgb f hf; omega) e1)
               have HC' := Lib.hid (fun W X (hS : Sv w4 W X p v1) => sv_commit hS ⟨by have := hk1.out; omega, by omega⟩ hf3' _ c4 hgl' (by have := hk1'.out; omega) hc3' (fun f hf => by have := hgb' f hf; omega) e2)
               have hR := recover_good q2 (hgd.both hgd')
               have hsm : Sc v2 := ⟨by have := hk1.out; have := hk1'.out; omega, by omega⟩
               have HR := Lib.hid (fun W X (hS : Sv w4 W X p v2) => sv_recover hS hsm hR)
               have HI := Lib.hid (fun W X (hS : Sv w4 W X p v2) => sv_is_true hS ⟨by have := hk1.out; have := hk1'.out; omega, by omega⟩ q2.live hf34 hf3' k k' c3 c4 hgl hgl' (by have := hk1.out; omega) (by have := hk1'.out; omega) (by rw [q2.now]; exact isM_both hgd hgd'))
               have hG4 := Lib.hid (hg3.out.trans' hg34.out)
               clear hS5 hF3 hgl hc3 hf3 hgd hgb e1 q1 hr1 ho1 hs1 hR hsm hF4 hgl' hc3' hf3' hgd' hgb' hf34 e2 q2 hr2 ho2 hs2 ho1' hg3 hg34)
            | (go_at_call 19; refine (HC'.out _ _ hS6.out).mono ?_; rintro e w7 ⟨rfl, X7, hS7⟩; replace hS7 := Lib.hid hS7)
            | (go_at_call 19; refine HC.out.mono ?_; rintro e w6 ⟨rfl, X6, hS6⟩; replace hS6 := Lib.hid hS6)
            | (go_at_call 20; refine (HI.out _ _ hS9.out).mono ?_; rintro e w10 ⟨rfl, hS10⟩; replace hS10 := Lib.hid hS10)
            | (go_at_call 20; refine (HI.out _ _ hS7.out).mono ?_; rintro e w8 ⟨rfl, hS8⟩; replace hS8 := Lib.hid hS8)
            | (go_at_call 22; refine (HR.out _ _ hS8.out).mono ?_; rintro e w9 ⟨rfl, X9, hS9⟩; replace hS9 := Lib.hid hS9))
          go_ret
          exact ⟨rfl, hG4.out.trans' hS10.out.gr⟩
    · have hdt : decide (FewM x1) = false := decide_eq_false hfw
      rw [hdt] at HF'
      go_enter Try.func5, Try.ntmps5
      go_wp2_with (first
        | (go_at_call 10; refine HK.out.mono ?_; rintro e w1 ⟨rfl, hg1⟩)
        | (go_at_call 11; refine (HF'.out _ hg2.out).mono ?_; rintro e w3 ⟨rfl, hw3⟩; subst hw3)
        | (go_at_call 11; refine (HF.out _ hg1).mono ?_; rintro e w2 ⟨rfl, hw2⟩; subst hw2; have hg2 := Lib.hid hg1))
      go_ret
      exact ⟨rfl, hg1⟩
  · have hdt : decide (FewM x0) = false := decide_eq_false hfw
    rw [hdt] at HF
    go_enter Try.func5, Try.ntmps5
    go_wp2_with (first
      | (go_at_call 10; refine HK.out.mono ?_; rintro e w1 ⟨rfl, hg1⟩)
      | (go_at_call 11; refine (HF.out _ hg1).mono ?_; rintro e w2 ⟨rfl, hw2⟩; subst hw2))
    go_ret
    exact ⟨rfl, hg1⟩
end Go.Proofs.Ytcfbkhgdlgnmgaa.commitTwice
set_option linter.unusedVariables false
set_option linter.unusedSimpArgs false
namespace Go.Proofs.Ytcfbkhgdlgnmgaa.commitTwice
open Go.ChangeShapes Go.WideShapes Go.ChangeAt Go.RowKit
open Go.ChangeMaps (open_string shut_string)
theorem own : ownKnob Try.prog.godebug = none := by kernel_rfl
theorem laidOut : laidOutB Try.prog = true := by kernel_rfl
set_option maxRecDepth 100000 in
theorem lifted (os : Os) (started : os.Started) (H : Type) (enc : TypeId × Value → H) :
    ReturnsInHanded {} Try.checked os 5 .any (Rows.commitTwiceSpec.pre6 enc Try.prog Try.f5 Rows.commitTwiceRow.domain false) (Rows.commitTwiceSpec.post enc Try.prog Try.f5 false true false false) := by
  refine returnsInHanded_of_change (C := Try.checked) own started (by kernel_rfl) Try.func5
    (ChangeSpec.witness6 (enc := enc) (C := Try.checked) false ⟨#[], #[.slice none 0 0, .slice none 0 0], []⟩ 8 (by kernel_rfl) (by kernel_rfl) (by kernel_rfl) (by kernel_rfl)) ?_
  intro W base args ds gs before hval0 hW hcnd _
  have hval : ∀ (j : Nat) t v, Try.f5.params[j]? = some t → args[j]? = some v → Value.okWide Try.prog W .any base t v := hval0
  have hW' := hW
  obtain ⟨p, q, hA0, hV, rfl, hfz, hnd⟩ := hW
  have hA : DataW.TrodAll enc Try.prog W 0 (fun _ => true) true Try.f5.params.toList args.toList ds p := hA0
  rw [Try.params5] at hA hval
  obtain ⟨v0, vs0, d0, ds0, p0, q0, hargs, rfl, rfl, h0, r0⟩ := trodAll_cons hA
  obtain ⟨v1, vs1, d1, ds1, p1, q1, rfl, rfl, rfl, h1, r1⟩ := trodAll_cons r0
  obtain ⟨rfl, rfl, rfl⟩ := trodAll_nil r1
  obtain rfl : args = #[v0, v1] := by cases args; simp_all
  obtain ⟨rfl, rfl⟩ := trodVars_none hV
  have lt0 : ∀ x ∈ p0, x.block < W.heap.size := by obtain ⟨m, hm⟩ := h0; exact DataW.trod_lt m _ _ _ hm
  have k0 := h0
  have lt1 : ∀ x ∈ p1, x.block < W.heap.size := by obtain ⟨m, hm⟩ := h1; exact DataW.trod_lt m _ _ _ hm
  have k1 := h1
  obtain ⟨a0, n0, c0, rfl⟩ := okWide_slice Try.underlying22 (hval 0 22 v0 rfl rfl)
  obtain ⟨x0, hn0, hf0, hl0, hc0⟩ := open_files h0
  obtain ⟨a1, n1, c1, rfl⟩ := okWide_slice Try.underlying22 (hval 1 22 v1 rfl rfl)
  obtain ⟨x1, hn1, hf1, hl1, hc1⟩ := open_files h1
  clear hA0 hval0
  refine (walk W a0 n0 c0 x0 hn0 hf0 hl0 hc0 a1 n1 c1 x1 hn1 hf1 hl1 hc1).mono fun e W' ⟨he, bel⟩ => ?_
  subst he
  exact ⟨_, rfl, _, _, _, [], _, [], hW', trodAll_mk1 (shut_bool Try.underlying4 _), (trodAll_cons_mk (Below.trod laidOut (by kernel_rfl) (of_decide_eq_true (by kernel_rfl)) k0 bel lt0) (trodAll_cons_mk (Below.trod laidOut (by kernel_rfl) (of_decide_eq_true (by kernel_rfl)) k1 bel lt1) trodAll_mk0)), rfl, bel.frame _, fun h => by cases h⟩
theorem over : Rows.commitTwiceRow.holds Try.pinned (OpenSpec.ofChange Rows.commitTwiceSpec) :=
  OpenClaim.holds_of_wide 5 Try.f5 rfl rfl rfl rfl rfl rfl rfl ⟨rfl, rfl, rfl, rfl, rfl⟩ rfl rfl rfl rfl rfl (by kernel_rfl) Try.func5 (by kernel_rfl)
    (of_decide_eq_true (by kernel_rfl)) (by unfold Func.isWrapper; first | (rw [if_pos (by decide +kernel)]; kernel_rfl) | (rw [if_neg (by decide +kernel)]; exact ⟨rfl, rfl⟩))
    (fun os started H enc _ => lifted os started H enc)
theorem proved : Rows.CommitTwiceSaid := over
#print axioms proved
end Go.Proofs.Ytcfbkhgdlgnmgaa.commitTwice
