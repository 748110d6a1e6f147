/-
  The statement of 'CommitRoom': the Go function returns true at every input, and its arguments read as before.
  Conditions: none.
-/
import Derived.Test.YtcfbkhgdlgnmgaaMCommitRoom2
import Derived.Test.YtcfbkhgdlgnmgaaMCommitRoom1
import Derived.Deep.QuietTactic
import Derived.BigQuiet
import Derived.Test.YtcfbkhgdlgnmgaaRows
set_option linter.unusedVariables false
set_option linter.unusedSimpArgs false
namespace Go.Proofs.Ytcfbkhgdlgnmgaa
open Go.RowKit Go.ChangeShapes Go.WideShapes Go.ChangeAt Go.Deep
instance : Inhabited FlR := ⟨⟨[], default⟩⟩
section
variable {H : Type} {enc : TypeId × Value → H} {w : World} {a : Option Addr} {len cap : Nat} {d : DataW H} {p : List MemPlace}
theorem rd_lt {A : Option Addr} {xs : List Value} (h : Rd w A xs) (h0 : 0 < xs.length) : ∀ ad, A = some ad → ad.block < w.heap.size := by
  intro ad e
  obtain ⟨ad', e', hc⟩ := h 0 xs[0] (List.getElem?_eq_getElem h0)
  rw [e] at e'
  injection e' with e'
  subst e'
  have := World.block_lt_of_cell? w _ hc
  rwa [block_of_add] at this
set_option maxRecDepth 100000 in
theorem open_file {fuel : Nat} {cs : List Value} {x : DataW H × List MemPlace} (h : DataW.trod enc Try.prog w 0 (fun _ => true) true fuel 31 cs = some x) : ∃ q : FlR, cs = q.cells ∧ q.q.Ok w ∧ q.nm.length ≤ maxLen := by
  have cS : Try.prog.cellsOf 9 = 1 := by kernel_rfl
  have cB : Try.prog.cellsOf 29 = 1 := by kernel_rfl
  have cA : Try.prog.cellsOf 31 = 2 := by kernel_rfl
  obtain ⟨xs, n, _, _, hl, hlen, hf⟩ := DataW.trod_struct Try.underlying31 h
  rw [cA] at hl
  match cs, hl with
  | [c0, c1], _ =>
    match xs, hlen with
    | [y0, y1], _ =>
      have h0 : DataW.trod enc Try.prog w 0 (fun _ => true) true n 9 [c0] = some y0 := by simpa [cS] using hf 0 _ rfl
      have h1 : DataW.trod enc Try.prog w 0 (fun _ => true) true n 29 [c1] = some y1 := by simpa [cB] using hf 1 _ rfl
      obtain ⟨s, e0, _, w0⟩ := DataW.trod_string Try.underlying9 h0
      obtain ⟨q, e1, hq⟩ := open_bytes_cell Try.underlying29 Try.underlying5 (by kernel_rfl) h1
      injection e0 with e0
      subst e0 e1
      exact ⟨⟨s.data.toList, q⟩, by simp [FlR.cells, encStr, Rw.val], hq, by simpa using w0⟩
set_option maxRecDepth 100000 in
theorem open_files (h : DataW.Trod enc Try.prog w 0 (fun _ => true) true 22 (.slice a len cap) d p) :
    ∃ rs : List FlR, Hid (rs.length = len) ∧ FlS w (fun i => i < w.heap.size) a rs ∧ len ≤ cap ∧ cap ≤ maxLen := by
  have cA : Try.prog.cellsOf 31 = 2 := by kernel_rfl
  obtain ⟨fuel, hf⟩ := h
  rcases open_slice Try.underlying22 hf with ⟨hcs, _⟩ | ⟨x, l, c, m, n, D, Pl, hcs, _, hl, hm, hmm, _, hx⟩
  · simp [Value.cells] at hcs
    obtain ⟨rfl, rfl, rfl⟩ := hcs
    exact ⟨[], Lib.hid rfl, ⟨Rd.nil _ _, fun h => absurd h (by simp), fun f hf => by cases hf⟩, Nat.le_refl _, by unfold maxLen; omega⟩
  · simp [Value.cells] at hcs
    obtain ⟨rfl, rfl, rfl⟩ := hcs
    simp only [if_true] at hmm
    subst hmm
    rw [cA] at hx
    obtain ⟨f, hf2⟩ := choose_lt (α := FlR) (n := len) (p := fun i q => w.cells? 0 (x.add (i * 2)) 2 = some q.cells ∧ q.q.Ok w ∧ q.nm.length ≤ maxLen) (fun i hi => by
      obtain ⟨cs', e1, e2⟩ := hx i (by omega)
      obtain ⟨q, e3, hq⟩ := open_file e2
      exact ⟨q, e3 ▸ e1, hq⟩)
    have hrl : ((List.range len).map f).length = len := by simp
    have hrd : Rd w (some x) (((List.range len).map f).flatMap FlR.cells) := by
      intro j u hu
      have hj : j < len * 2 := by
        have := (List.getElem?_eq_some_iff.1 hu).1
        rw [cmf_len, hrl] at this
        exact this
      have hi : j / 2 < len := by omega
      have hk : j % 2 < 2 := Nat.mod_lt _ (by omega)
      have e : j = j / 2 * 2 + j % 2 := by omega
      rw [e, cmf_get _ (by rw [hrl]; exact hi) hk] at hu
      rw [List.getElem_map, List.getElem_range] at hu
      obtain ⟨_, hlen, hc⟩ := World.cells?_some (hf2 _ hi).1
      refine ⟨x, rfl, ?_⟩
      have := hc (j % 2) (by rw [← hlen]; exact (List.getElem?_eq_some_iff.1 hu).1)
      rw [add_of_add, ← e] at this
      exact this.trans hu
    refine ⟨(List.range len).map f, Lib.hid hrl, ⟨hrd, fun h0 ad e => rd_lt hrd (by rw [cmf_len]; omega) ad e, fun q hq => ?_⟩, hl, hm⟩
    obtain ⟨i, hi, rfl⟩ := List.mem_map.1 hq
    obtain ⟨_, h1, h2⟩ := hf2 i (List.mem_range.1 hi)
    exact ⟨h1, h2, fun h0 ad e => rd_lt h1.rd (by rw [List.length_map]; have := h1.len.out; omega) ad e⟩
end
end Go.Proofs.Ytcfbkhgdlgnmgaa
set_option linter.unusedVariables false
set_option linter.unusedSimpArgs false
set_option maxRecDepth 100000
namespace Go.Proofs.Ytcfbkhgdlgnmgaa
open Go.RowKit Go.Maps Go.Sort
attribute [local go_sem] Vc.known_tmp Vc.known_const Vc.known_func Vc.known_global Vc.lk Vc.okUpon Vc.Fact.holds
def strs4 : List Str := [[97], [98], [111], [120]]
def nmA (i : Nat) : Str := strs4.getD i []
def cut60 (q : Rw) : Rw := ⟨q.A, min q.n 60, q.c, q.b.take 60⟩
def goodR (rs : List FlR) (n : Nat) : List FlR := (List.range n).map fun i => ⟨nmA i, cut60 (rs[i]!).q⟩
theorem goodR_len (rs : List FlR) (n : Nat) : (goodR rs n).length = n := by simp [goodR]
theorem goodR_succ (rs : List FlR) {n : Nat} (h : n < rs.length) : goodR rs (n + 1) = goodR rs n ++ [⟨nmA n, cut60 rs[n].q⟩] := by
  unfold goodR
  rw [List.range_succ, List.map_append]
  simp [h]
section
variable {X Z : Nat → Prop} {w w' : World} {A : Option Addr} {rs : List FlR}
def FewM (rs : List FlR) : Prop := (∀ f ∈ rs, f.q.n ≤ 9000 ∧ f.nm.length ≤ 40) ∧ rs.length ≤ 10
instance (rs : List FlR) : Decidable (FewM rs) := by unfold FewM; infer_instance
theorem few_any (h : FlS w Z A rs) (c : Nat) (hl : rs.length ≤ maxLen) :
    Calls Try.prog 11 #[.slice A rs.length c] w fun e w' => e = .returned (.bool (decide (FewM rs))) ∧ w' = w := by
  unfold maxLen at hl
  obtain ⟨R, hR⟩ : ∃ R, R = decide (FewM rs) := ⟨_, rfl⟩
  rw [← hR]
  have HR := Lib.hid hR
  clear hR
  generalize hn : rs.length = n at hl ⊢
  go_enter Try.func11, Try.ntmps11
  go_wp2_with fail
  go_loopw [3] (fun i wr => ∃ j : Nat, j ≤ n ∧ i = .int .i64 j ∧ Hid (∀ i (h : i < rs.length), i < j → rs[i].q.n ≤ 9000 ∧ rs[i].nm.length ≤ 40) ∧ wr = w) (fun i _ => n - (intOf i).toNat)
  case atStart => exact ⟨0, by omega, rfl, Lib.hid (fun i h h' => absurd h' (by omega)), rfl⟩
  case round =>
    obtain ⟨j, hj, rfl, hall, rfl⟩ := hrel
    by_cases hlt : j < n
    · have hjl : j < rs.length := by omega
      obtain ⟨g, off, rfl, x0, x1⟩ := h.at_ hjl
      have hal := Lib.hid (fun (h1 : rs[j].q.n ≤ 9000) (h2 : rs[j].nm.length ≤ 40) => show ∀ i (h : i < rs.length), i < j + 1 → rs[i].q.n ≤ 9000 ∧ rs[i].nm.length ≤ 40 from fun i h h' => by
        by_cases e : i = j
        · subst e; exact ⟨h1, h2⟩
        · exact hall.out i h (by omega))
      have hbad := Lib.hid (fun (h1 : ¬ (rs[j].q.n ≤ 9000 ∧ rs[j].nm.length ≤ 40)) => show R = false from by
        rw [HR.out]
        exact decide_eq_false fun hf => h1 (hf.1 _ (List.getElem_mem hjl)))
      have hlec := (h.ok _ (List.getElem_mem hjl)).1.le
      have hnl := (h.ok _ (List.getElem_mem hjl)).2.1
      unfold maxLen at hnl
      generalize rs[j].q.n = qn at *
      generalize rs[j].q.A = qA at *
      generalize rs[j].q.c = qc at *
      generalize rs[j].nm = nm at *
      by_cases h1 : 9000 < qn
      · go_wp2
        go_ret
        rw [hbad.out (by omega)]
        exact ⟨rfl, rfl⟩
      · by_cases h2 : 40 < nm.length
        · go_wp2
          go_ret
          rw [hbad.out (by omega)]
          exact ⟨rfl, rfl⟩
        · have h3 := Lib.hid (hal.out (by omega) (by omega))
          go_wp2
          go_roundw
          case rel => exact ⟨j + 1, by omega, by go_num, h3, trivial⟩
          case measure => simp [intOf]; omega
    · obtain rfl : j = n := by omega
      by_cases h10 : j ≤ 10
      · have hRt := Lib.hid (show R = true from by
          rw [HR.out]
          exact decide_eq_true ⟨fun f hf => by obtain ⟨i, hi, rfl⟩ := List.getElem_of_mem hf; exact hall.out i hi (by omega), by omega⟩)
        go_wp2
        go_ret
        rw [hRt.out]
        refine ⟨?_, rfl⟩
        simp
        omega
      · have hRt := Lib.hid (show R = false from by
          rw [HR.out]
          exact decide_eq_false fun hf => h10 (by have := hf.2; omega))
        go_wp2
        go_ret
        rw [hRt.out]
        refine ⟨?_, rfl⟩
        simp
        omega
theorem row4_at (i : Nat) (h : i < 4) : (strs4.map encStr)[i]? = some (encStr (nmA i)) := by
  rw [List.getElem?_map]
  unfold nmA strs4
  rcases i with _ | _ | _ | _ | i <;> first | rfl | omega
set_option maxHeartbeats 1000000 in
theorem good_any (h : FlS w Z A rs) (hz : ∀ i, Z i → i < w.heap.size) (c : Nat) (k : Nat) (hk : k ≤ 4) (hl : rs.length ≤ maxLen) :
    Calls Try.prog 12 #[.slice A rs.length c, .int .i64 k] w fun e w' => ∃ A' c', e = .returned (.slice A' (min rs.length k) c') ∧ FlO w' Z w.heap.size A' (min rs.length k) c' (goodR rs (min rs.length k)) ∧ Gr w w' := by
  unfold maxLen at hl
  obtain ⟨i0, hi, hz0, hz1, hz2⟩ := info_parts info_cfile
  generalize hn : rs.length = n at hl ⊢
  go_enter Try.func12, Try.ntmps12
  go_wp2_with fail
  go_loopw [5, 6] (fun t i wr => ∃ j : Nat, j ≤ min n k ∧ i = .int .i64 j ∧ ∃ A' c', t = .slice A' j c' ∧ Hid (FlO wr Z w.heap.size A' j c' (goodR rs j)) ∧ Gr w wr) (fun _ i _ => min n k - (intOf i).toNat)
  case atStart => exact ⟨0, by omega, rfl, none, 0, rfl, Lib.hid (FlO.nil _ _ _), Gr.rfl' _⟩
  case round =>
    obtain ⟨j, hj, rfl, A1, c1, rfl, hfl, hg⟩ := hrel
    by_cases hlt : j < min n k
    · have hjl : j < rs.length := by omega
      have hjn : j < n := by omega
      have hjk : j < k := by omega
      have hj4 : j < 4 := by omega
      have hgs := Lib.hid (goodR_succ rs hjl)
      obtain ⟨g, off, rfl, x0, x1⟩ := (h.gr hg).at_ hjl
      have hq := ((h.gr hg).ok _ (List.getElem_mem hjl)).1
      have hqz := ((h.gr hg).ok _ (List.getElem_mem hjl)).2.2
      have hle := hq.le
      have hlec := hq.lec
      unfold maxLen at hlec
      have hrow4 := Lib.hid (row4_at j hj4)
      have hq1 : Hid (Rw.Ok wr (cut60 rs[j].q)) := Lib.hid ⟨Lib.hid (by have := hq.len.out; show (List.take 60 _).length = min _ 60; rw [List.length_take]; omega), by have := hq.rd.take 60; rw [← List.map_take] at this; exact this, Nat.le_trans (Nat.min_le_left _ _) hq.le, hq.lec⟩
      have hqz2 := Lib.hid (show 0 < (cut60 rs[j].q).n → ∀ ad, (cut60 rs[j].q).A = some ad → Z ad.block from fun h0 ad e => hqz (by have : 0 < min rs[j].q.n 60 := h0; omega) ad e)
      obtain ⟨f, hf⟩ : ∃ f : FlR, f = ⟨nmA j, cut60 rs[j].q⟩ := ⟨_, rfl⟩
      have hfc : f.cells = [encStr (nmA j), .slice rs[j].q.A (min rs[j].q.n 60) rs[j].q.c] := by rw [hf]; rfl
      rw [← hf] at hgs
      have hfp := Lib.hid (show f.q.Ok wr ∧ f.nm.length ≤ maxLen ∧ (0 < f.q.n → ∀ ad, f.q.A = some ad → Z ad.block) from by
        rw [hf]
        refine ⟨hq1.out, ?_, hqz2.out⟩
        show (nmA j).length ≤ maxLen
        unfold nmA strs4 maxLen
        rcases j with _ | _ | _ | _ | j <;> simp <;> omega)
      have hfc := Lib.hid hfc
      clear hf hq hqz hq1 hqz2
      generalize rs[j].q.n = qn at *
      generalize rs[j].q.A = qA at *
      generalize rs[j].q.c = qc at *
      have hmod : Int.tmod (j : Int) 4 = (j : Int) := Int.tmod_eq_of_lt (by omega) (by omega)
      obtain ⟨m, hm⟩ : ∃ m, m = min qn 60 := ⟨_, rfl⟩
      have hmin : min (qn : Int) 60 = (m : Int) := by omega
      have hmc : m ≤ qc := by omega
      have hfc := Lib.hid (hm ▸ hfc.out)
      clear hm
      go_wp2_with fail
      have HX := Lib.hid (fun W (hW : Gr wr W) => (hW.cell x1 : W.cell? ⟨g, off + j * 2 + 1, none⟩ = some (.slice qA qn qc)))
      clear x0 x1
      refine Vc.wp_region_split ⟨Gr, fun _ => Gr, fun _ W => Gr wr W, []⟩ 21 [] (by kernel_rfl) (by kernel_rfl) (by kernel_rfl) (by decide) (by simp) (by simp) (by simp) (fun _ _ h => h.size) (fun _ _ _ h => h.size) (fun _ _ _ h h' => h'.trans' h) (Gr.draw _) ?_
      repeat
        refine Vc.Walk.pure (v := ?_) (fun _ => Gr.rfl' _) rfl (by first | exact Vc.GuardYes.no rfl | exact Vc.GuardYes.yes rfl rfl) rfl rfl ?_ ?_
        rotate_left
        · intro _ W hI
          (clear hI)
          go_simp
          exact rfl
      refine Vc.Walk.call (.fits (Vc.All fun v W => ∃ g, v = .slice (some ⟨g, 0, none⟩) 4 4 ∧ Row W g 9 (strs4.map encStr))) (Vc.All.stable (fun u W W' hl hf => by obtain ⟨g, e, hR⟩ := hf; exact ⟨g, e, hR.gr hl⟩) (fun _ u W W' _ hl hf => by obtain ⟨g, e, hR⟩ := hf; exact ⟨g, e, hR.gr hl⟩)) (.no rfl) rfl rfl ?_ ?_
      · intro k W hI
        clear hI
        go_simp
        exact ⟨⟨_, rfl, Row.new W _ (strs4.map encStr)⟩, Gr.alloc1 _ _⟩
      repeat
        refine Vc.Walk.pure (v := ?_) (fun _ => Gr.rfl' _) rfl (by first | exact Vc.GuardYes.no rfl | exact Vc.GuardYes.yes rfl rfl) rfl rfl ?_ ?_
        rotate_left
        · intro _ W hI
          (clear hI)
          go_simp
          exact rfl
      refine Vc.Walk.any (.fits (Vc.All fun v W => ∃ g, v = .pointer (some ⟨g, j, none⟩) ∧ Row W g 9 (strs4.map encStr))) (Vc.All.stable (fun u W W' hl hf => by obtain ⟨g, e, hR⟩ := hf; exact ⟨g, e, hR.gr hl⟩) (fun _ u W W' _ hl hf => by obtain ⟨g, e, hR⟩ := hf; exact ⟨g, e, hR.gr hl⟩)) (.no rfl) ?_ ?_
      · intro ρ k W hI hf
        obtain ⟨⟨g, hρ1, hR⟩, hρ2, _⟩ := hf
        have e1 : ρ (.tmp 19) = .slice (some ⟨g, 0, none⟩) 4 4 := hρ1
        have e2 : ρ (.tmp 21) = .int .i64 j := hρ2
        have h5 : (j : Int) < 4 := by omega
        clear hI hρ1 hρ2
        go_simp
        exact ⟨⟨_, rfl, hR⟩, Gr.rfl' _⟩
      refine Vc.Walk.any (.is (encStr (nmA j))) trivial (.no rfl) ?_ ?_
      · intro ρ k W hI hf
        obtain ⟨⟨g, hρ1, hR⟩, _⟩ := hf
        have e1 : ρ (.tmp 22) = .pointer (some ⟨g, j, none⟩) := hρ1
        have hcell : W.cell? ⟨g, j, none⟩ = some (encStr (nmA j)) := (hR.cell j).trans hrow4.out
        clear hI hρ1
        go_simp
        first | exact ⟨rfl, Gr.rfl' _⟩ | exact Gr.rfl' _
      repeat
        refine Vc.Walk.pure (v := ?_) (fun _ => Gr.rfl' _) rfl (by first | exact Vc.GuardYes.no rfl | exact Vc.GuardYes.yes rfl rfl) rfl rfl ?_ ?_
        rotate_left
        · intro _ W hI
          (have y1 := HX.out _ hI.g; clear hI)
          go_simp
          exact rfl
      refine Vc.Walk.call (.fits (Vc.All fun v W => ∃ g, v = .slice (some ⟨g, 0, none⟩) 1 1 ∧ Row W g 31 [encStr (nmA j), .slice qA m qc])) (Vc.All.stable (fun u W W' hl hf => by obtain ⟨g, e, hR⟩ := hf; exact ⟨g, e, hR.gr hl⟩) (fun _ u W W' _ hl hf => by obtain ⟨g, e, hR⟩ := hf; exact ⟨g, e, hR.gr hl⟩)) (.no rfl) rfl rfl ?_ ?_
      · intro k W hI
        clear hI
        go_simp
        exact ⟨⟨_, rfl, Row.new W _ [encStr (nmA j), .slice qA m qc]⟩, Gr.alloc1 _ _⟩
      intro W hW
      have hW : Gr wr W := hW
      simp only [List.reverse_cons, List.reverse_nil, List.nil_append, List.cons_append, Vc.finish, Act.put, List.setIfInBounds_toArray, List.set_cons_zero, List.set_cons_succ]
      rintro u19 _ u22 _ u38 ⟨g38, rfl, hR38⟩ _
      simp only [List.drop_succ_cons, List.drop_zero]
      have hown := Lib.hid (hfl.out.gr hW)
      have hsz := Nat.le_trans hg.size hW.size
      have hR38 := Lib.hid hR38
      go_wp2_with (at_builtin; with_reducible refine wpList_append (o := ⟨some 39, _, _, _, _, _⟩) _ rfl _ _ 22 rfl w.heap.size 31 i0 _ 2 40 Try.underlying22 hi hz0 hz1 hz2 rfl (by omega) A1 j c1 _ rfl hown.out.own _ 1 1 [encStr (nmA j), .slice qA m qc] rfl rfl (Rd.of_row' hR38.out) (by simp [Value.oneCell']) (by omega) (by unfold maxLen; omega) hsz ?_
                   intro A6 c6 w6 ho6 hk6
                   have hq6 := Lib.hid (And.intro ho6 hk6)
                   clear ho6 hk6)
      go_roundw
      case rel =>
        obtain ⟨q1, q2⟩ := hq6.out
        obtain ⟨p1, p2, p3⟩ := hfp.out
        refine ⟨j + 1, by omega, by go_num, A6, c6, rfl, Lib.hid ?_, Gr.grownBk (hg.trans' hW) q2.grown (fun g' e => (hown.out.own.blk g' e).1)⟩
        rw [hgs.out]
        exact hown.out.push (p1.gr hW) p2 (fun h0 ad e => ⟨p3 h0 ad e, fun e2 => by have := (hown.out.own.blk _ e2).1; have := hz _ (p3 h0 ad e); omega, by have := hz _ (p3 h0 ad e); omega⟩) (by rw [hfc.out]; exact q1) q2
      case measure => simp [intOf]; omega
    · obtain rfl : j = min n k := by omega
      have hfz := Lib.hid hfl.out
      clear hfl
      generalize hnk : min n k = m at *
      by_cases hmn : m < n
      · have hmk : ¬ ((m : Int) < k) := by omega
        go_wp2
        go_ret
        try rw [hnk]
        exact ⟨A1, c1, rfl, hfz.out, hg⟩
      · obtain rfl : m = n := by omega
        go_wp2
        go_ret
        try rw [hnk]
        exact ⟨A1, c1, rfl, hfz.out, hg⟩
end
end Go.Proofs.Ytcfbkhgdlgnmgaa
set_option linter.unusedVariables false
set_option linter.unusedSimpArgs false
set_option maxRecDepth 100000
namespace Go.Proofs.Ytcfbkhgdlgnmgaa
open Go.RowKit Go.Maps Go.Sort
attribute [local go_sem] Vc.known_tmp Vc.known_const Vc.known_func Vc.known_global Vc.lk Vc.okUpon Vc.Fact.holds
def wantA (o n : List Fl) (i : Nat) : Str := if i < n.length then (n.getD i default).2 else (o.getD i default).2
def IsM (F : Files) (o n : List Fl) : Prop :=
  (∀ i, i < o.length → F.get (o.getD i default).1 = some (wantA o n i)) ∧ (∀ i, o.length ≤ i → i < n.length → F.get (n.getD i default).1 = some (n.getD i default).2) ∧ F.length = n.length + (o.length - n.length)
section
variable {X Z Z2 : Nat → Prop} {w w' : World} {p : Nat} {s : V} {A B : Option Addr} {rs ts : List FlR}
theorem getD_fl (rs : List FlR) {i : Nat} (h : i < rs.length) : (rs.map FlR.fl).getD i default = (rs[i].nm, rs[i].q.b) := by
  rw [List.getD_eq_getElem?_getD, List.getElem?_map, List.getElem?_eq_getElem h]
  rfl
set_option maxHeartbeats 4000000 in
theorem is_any (h : At w X p s) (hs : Sm s) (hd : s.dead = false) (hf : FlS w Z A rs) (hf2 : FlS w Z2 B ts) (c c2 : Nat) (hl : rs.length ≤ 255) (hl2 : ts.length ≤ 255) :
    Calls Try.prog 20 #[.pointer (some ⟨p, 0, none⟩), .slice A rs.length c, .slice B ts.length c2] w fun e w' => ∃ b : Bool, e = .returned (.bool b) ∧ (b = true ↔ IsM s.now (rs.map FlR.fl) (ts.map FlR.fl)) ∧ Gr w w' := by
  obtain ⟨R, hR⟩ : ∃ R : Bool, (R = true ↔ IsM s.now (rs.map FlR.fl) (ts.map FlR.fl)) := by
    rcases Classical.em (IsM s.now (rs.map FlR.fl) (ts.map FlR.fl)) with h1 | h1
    · exact ⟨true, by simp [h1]⟩
    · exact ⟨false, by simp [h1]⟩
  refine Calls.mono (R := fun e w' => e = .returned (.bool R) ∧ Gr w w') ?_ (fun e w' h => ⟨R, h.1, hR, h.2⟩)
  have hok := h.1
  have HN := Lib.hid (fun W (hg : Gr w W) => names_any (h.gr hg) hs)
  have hnl : s.now.length ≤ 1000000 := Nat.le_trans hok.nowL hs.ops
  obtain ⟨F, hF⟩ : ∃ F, F = s.now := ⟨_, rfl⟩
  have HRd := Lib.hid (fun W (hg : Gr w W) (m : Str) (hm : m.length ≤ maxLen) (x : Str) (hx : F.get m = some x) => show Calls Try.prog 44 #[.pointer (some ⟨p, 0, none⟩), encStr m] W fun e w' => ∃ A' c', e = .returned (.tuple #[.slice A' x.length c', .bool true, .int .i64 0]) ∧ Rd w' A' (x.map bv) ∧ Gr W w' from by
    refine (read_any (h.gr hg) m hm).mono ?_
    rw [show s.read m = (x, true, 0) from by simp [V.read, hd, ← hF, hx]]
    rintro e w' ⟨A', m', c', rfl, hm', ho, hg⟩
    simp only at hm'
    subst hm'
    exact ⟨A', c', rfl, ho.rd, hg⟩)
  have HRn := Lib.hid (fun W (hg : Gr w W) (m : Str) (hm : m.length ≤ maxLen) (hx : F.get m = none) => show Calls Try.prog 44 #[.pointer (some ⟨p, 0, none⟩), encStr m] W fun e w' => ∃ A' n' c', e = .returned (.tuple #[.slice A' n' c', .bool false, .int .i64 0]) ∧ Hid (n' = 0) ∧ Rd w' A' [] ∧ Gr W w' from by
    refine (read_any (h.gr hg) m hm).mono ?_
    rw [show s.read m = ([], false, 0) from by simp [V.read, hd, ← hF, hx]]
    rintro e w' ⟨A', m', c', rfl, hm', ho, hg⟩
    exact ⟨A', m', c', rfl, Lib.hid hm', ho.rd, hg⟩)
  have hR2 : R = true ↔ (∀ i, (hi : i < rs.length) → F.get rs[i].nm = some (if h2 : i < ts.length then ts[i].q.b else rs[i].q.b)) ∧ (∀ i, (hi : i < ts.length) → rs.length ≤ i → F.get ts[i].nm = some ts[i].q.b) ∧ F.length = ts.length + (rs.length - ts.length) := by
    rw [hR, ← hF]
    unfold IsM wantA
    simp only [List.length_map]
    refine and_congr ?_ (and_congr ?_ Iff.rfl)
    · refine forall_congr' fun i => forall_congr' fun hi => ?_
      rw [getD_fl rs hi]
      by_cases h2 : i < ts.length
      · rw [if_pos h2, dif_pos h2, getD_fl ts h2]
      · rw [if_neg h2, dif_neg h2]
    · constructor
      · intro hh i hi hl
        have := hh i hl hi
        rw [getD_fl ts hi] at this
        exact this
      · intro hh i hl hi
        rw [getD_fl ts hi]
        exact hh i hi hl
  rw [← hF] at hnl HN
  have HR2 := Lib.hid hR2
  clear hR2 hR hF hok hs hd
  generalize hn : rs.length = n at hl ⊢
  generalize hk : ts.length = k at hl2 ⊢
  go_enter Try.func20, Try.ntmps20
  go_wp2_with fail
  go_loopw [7, 8] (fun t i wr => ∃ j : Nat, j ≤ n ∧ i = .int .i64 j ∧ t = .int .i64 ((k + (j - k) : Nat) : Int) ∧ Hid (∀ i, (hi : i < rs.length) → i < j → F.get rs[i].nm = some (if h2 : i < ts.length then ts[i].q.b else rs[i].q.b)) ∧ Gr w wr) (fun _ i _ => n - (intOf i).toNat)
  case atStart => exact ⟨0, by omega, rfl, by simp, Lib.hid (fun i h h' => absurd h' (by omega)), Gr.rfl' _⟩
  case round =>
    obtain ⟨j, hj, rfl, rfl, hall, hg⟩ := hrel
    by_cases hlt : j < n
    · have hjl : j < rs.length := by omega
      obtain ⟨g, off, rfl, x0, x1⟩ := (hf.gr hg).at_ hjl
      have hqq := Lib.hid (fun W (hW : Gr wr W) => ((hf.gr hg).gr hW).ok _ (List.getElem_mem hjl))
      have hlen1 := (hf.ok _ (List.getElem_mem hjl)).1.len.out
      have hnm := (hf.ok _ (List.getElem_mem hjl)).2.1
      have hgood := Lib.hid (fun (h1 : F.get rs[j].nm = some (if h2 : j < ts.length then ts[j].q.b else rs[j].q.b)) => show ∀ i, (hi : i < rs.length) → i < j + 1 → F.get rs[i].nm = some (if h2 : i < ts.length then ts[i].q.b else rs[i].q.b) from fun i h h' => by
        by_cases e : i = j
        · subst e; exact h1
        · exact hall.out i h (by omega))
      have hbad := Lib.hid (fun (h1 : F.get rs[j].nm ≠ some (if h2 : j < ts.length then ts[j].q.b else rs[j].q.b)) => show R = false from by
        cases hb : R
        · rfl
        · exact absurd ((HR2.out.1 hb).1 j hjl) h1)
      have HC1 := Lib.hid (fun W (hW : Gr wr W) => run_str (P := Try.prog) (hqq.out W hW).1.rd 29 9 5 rs[j].q.n rs[j].q.c hlen1.symm Try.underlying29 Try.underlying5 Try.underlying9)
      obtain ⟨W0, hW0⟩ : ∃ W0 : Str, W0 = rs[j].q.b := ⟨_, rfl⟩
      by_cases hjk : j < k
      · have hjt : j < ts.length := by omega
        obtain ⟨g2, off2, rfl, z0, z1⟩ := (hf2.gr hg).at_ hjt
        have hqq2 := Lib.hid (fun W (hW : Gr wr W) => ((hf2.gr hg).gr hW).ok _ (List.getElem_mem hjt))
        have hlen2 := (hf2.ok _ (List.getElem_mem hjt)).1.len.out
        have HC2 := Lib.hid (fun W (hW : Gr wr W) => run_str (P := Try.prog) (hqq2.out W hW).1.rd 29 9 5 ts[j].q.n ts[j].q.c hlen2.symm Try.underlying29 Try.underlying5 Try.underlying9)
        rw [dif_pos hjt] at hgood hbad
        rw [← hW0] at HC1
        have hlt2 : (j : Int) < k := by omega
        clear hqq hqq2 hlen1 hlen2 hW0
        generalize rs[j].nm = nm at *
        generalize rs[j].q = q at *
        generalize ts[j].q = q2 at *
        obtain ⟨qA, qn, qc, qb⟩ := q
        obtain ⟨qA2, qn2, qc2, qb2⟩ := q2
        simp only at *
        cases hget : F.get nm with
        | none =>
          have hRf := Lib.hid (hbad.out (by rw [hget]; simp))
          go_wp2_with (go_at_call 44; refine (HRn.out _ hg nm hnm hget).mono ?_; rintro e w2 ⟨A', n', c', rfl, hn', hr', hg2⟩; have hcv1 := HC1.out _ hg2; have hcv2 := HC2.out _ hg2; have y1 := hg2.cell x1; have y3 := hg2.cell z1)
          go_ret
          rw [hRf.out]
          exact ⟨rfl, hg.trans' hg2⟩
        | some x =>
          by_cases hxy : x = qb2
          · have hg3 := Lib.hid (hgood.out (by rw [hget, hxy]))
            subst hxy
            go_wp2_with (go_at_call 44; refine (HRd.out _ hg nm hnm x hget).mono ?_; rintro e w2 ⟨A', c', rfl, hr', hg2⟩; have hcv1 := HC1.out _ hg2; have hcv2 := HC2.out _ hg2; have y1 := hg2.cell x1; have y3 := hg2.cell z1; have hcv3 := run_str (P := Try.prog) hr' 29 9 5 x.length c' rfl Try.underlying29 Try.underlying5 Try.underlying9)
            go_roundw
            case rel => exact ⟨j + 1, by omega, by go_num, (by first | (congr 1; omega) | (unfold wrap64; congr 1; omega)), hg3, hg.trans' hg2⟩
            case measure => simp [intOf]; omega
          · have hRf := Lib.hid (hbad.out (by rw [hget]; intro e; exact hxy (Option.some.inj e)))
            have hxb : (x == qb2) = false := by simpa using hxy
            go_wp2_with (go_at_call 44; refine (HRd.out _ hg nm hnm x hget).mono ?_; rintro e w2 ⟨A', c', rfl, hr', hg2⟩; have hcv1 := HC1.out _ hg2; have hcv2 := HC2.out _ hg2; have y1 := hg2.cell x1; have y3 := hg2.cell z1; have hcv3 := run_str (P := Try.prog) hr' 29 9 5 x.length c' rfl Try.underlying29 Try.underlying5 Try.underlying9)
            go_ret
            rw [hRf.out]
            exact ⟨rfl, hg.trans' hg2⟩
      · rw [dif_neg (by omega)] at hgood hbad
        have hlt2 : ¬ ((j : Int) < k) := by omega
        rw [← hW0] at HC1 hgood hbad
        clear hqq hlen1 hW0
        generalize rs[j].nm = nm at *
        generalize rs[j].q = q at *
        obtain ⟨qA, qn, qc, qb⟩ := q
        simp only at *
        cases hget : F.get nm with
        | none =>
          have hRf := Lib.hid (hbad.out (by rw [hget]; simp))
          go_wp2_with (go_at_call 44; refine (HRn.out _ hg nm hnm hget).mono ?_; rintro e w2 ⟨A', n', c', rfl, hn', hr', hg2⟩; have hcv1 := HC1.out _ hg2; have hcv2 := trivial; have y1 := hg2.cell x1)
          go_ret
          rw [hRf.out]
          exact ⟨rfl, hg.trans' hg2⟩
        | some x =>
          by_cases hxy : x = W0
          · have hg3 := Lib.hid (hgood.out (by rw [hget, hxy]))
            subst hxy
            go_wp2_with (go_at_call 44; refine (HRd.out _ hg nm hnm x hget).mono ?_; rintro e w2 ⟨A', c', rfl, hr', hg2⟩; have hcv1 := HC1.out _ hg2; have hcv2 := trivial; have y1 := hg2.cell x1; have hcv3 := run_str (P := Try.prog) hr' 29 9 5 x.length c' rfl Try.underlying29 Try.underlying5 Try.underlying9)
            go_roundw
            case rel => exact ⟨j + 1, by omega, by go_num, (by first | (congr 1; omega) | (unfold wrap64; congr 1; omega)), hg3, hg.trans' hg2⟩
            case measure => simp [intOf]; omega
          · have hRf := Lib.hid (hbad.out (by rw [hget]; intro e; exact hxy (Option.some.inj e)))
            have hxb : (x == W0) = false := by simpa using hxy
            go_wp2_with (go_at_call 44; refine (HRd.out _ hg nm hnm x hget).mono ?_; rintro e w2 ⟨A', c', rfl, hr', hg2⟩; have hcv1 := HC1.out _ hg2; have hcv2 := trivial; have y1 := hg2.cell x1; have hcv3 := run_str (P := Try.prog) hr' 29 9 5 x.length c' rfl Try.underlying29 Try.underlying5 Try.underlying9)
            go_ret
            rw [hRf.out]
            exact ⟨rfl, hg.trans' hg2⟩
    · obtain rfl : j = n := by omega
      have hall2 := Lib.hid hall.out
      clear hall
      go_wp2_with fail
      go_loopw [13] (fun i wr2 => ∃ l : Nat, j ≤ l ∧ (l ≤ k ∨ l = j) ∧ i = .int .i64 l ∧ Hid (∀ i, (hi : i < ts.length) → j ≤ i → i < l → F.get ts[i].nm = some ts[i].q.b) ∧ Gr w wr2) (fun i _ => k - (intOf i).toNat)
      case atStart => exact ⟨j, by omega, .inr rfl, rfl, Lib.hid (fun i h h1 h2 => absurd h1 (by omega)), hg⟩
      case round =>
        obtain ⟨l, hjl, hlk, rfl, hal3, hg⟩ := hrel
        by_cases hlt : l < k
        · have hlt2 : (l : Int) < k := by omega
          have hll : l < ts.length := by omega
          obtain ⟨g, off, rfl, x0, x1⟩ := (hf2.gr hg).at_ hll
          have hqq := Lib.hid (fun W (hW : Gr wr W) => ((hf2.gr hg).gr hW).ok _ (List.getElem_mem hll))
          have hlen1 := (hf2.ok _ (List.getElem_mem hll)).1.len.out
          have hnm := (hf2.ok _ (List.getElem_mem hll)).2.1
          have hgood := Lib.hid (fun (h1 : F.get ts[l].nm = some ts[l].q.b) => show ∀ i, (hi : i < ts.length) → j ≤ i → i < l + 1 → F.get ts[i].nm = some ts[i].q.b from fun i h h' h'' => by
            by_cases e : i = l
            · subst e; exact h1
            · exact hal3.out i h h' (by omega))
          have hbad := Lib.hid (fun (h1 : F.get ts[l].nm ≠ some ts[l].q.b) => show R = false from by
            cases hb : R
            · rfl
            · exact absurd ((HR2.out.1 hb).2.1 l hll (by omega)) h1)
          have HC1 := Lib.hid (fun W (hW : Gr wr W) => run_str (P := Try.prog) (hqq.out W hW).1.rd 29 9 5 ts[l].q.n ts[l].q.c hlen1.symm Try.underlying29 Try.underlying5 Try.underlying9)
          clear hqq hlen1
          generalize ts[l].nm = nm at *
          generalize ts[l].q = q at *
          obtain ⟨qA, qn, qc, qb⟩ := q
          simp only at *
          cases hget : F.get nm with
          | none =>
            have hRf := Lib.hid (hbad.out (by rw [hget]; simp))
            go_wp2_with (go_at_call 44; refine (HRn.out _ hg nm hnm hget).mono ?_; rintro e w2 ⟨A', n', c', rfl, hn', hr', hg2⟩; have hcv1 := HC1.out _ hg2; have y1 := hg2.cell x1)
            go_quiet (fail)
            go_wp2
            go_ret
            rw [hRf.out]
            exact ⟨rfl, hg.trans' (hg2.trans' (Gr.drawN _ _))⟩
          | some x =>
            by_cases hxy : x = qb
            · have hg3 := Lib.hid (hgood.out (by rw [hget, hxy]))
              subst hxy
              go_wp2_with (go_at_call 44; refine (HRd.out _ hg nm hnm x hget).mono ?_; rintro e w2 ⟨A', c', rfl, hr', hg2⟩; have y1 := hg2.cell x1)
              replace hr' := Lib.hid hr'
              replace y1 := Lib.hid y1
              refine Vc.wp_region_facts ⟨Gr, fun _ => Gr, fun _ W => Gr w2 W, []⟩ (by kernel_rfl) (by kernel_rfl) (fun _ _ _ h h' => h'.trans' h) (Gr.draw _) ?_
              repeat
                refine Vc.Walk.pure (v := ?_) (fun _ => Gr.rfl' _) rfl (by first | exact Vc.GuardYes.no rfl | exact Vc.GuardYes.yes rfl rfl) rfl rfl ?_ ?_
                rotate_left
                · intro _ W hI
                  (have y2 := hI.g.cell y1.out; have hcv1 := HC1.out _ (hg2.trans' hI.g); have hcv3 := run_str (P := Try.prog) (hr'.out.gr hI.g) 29 9 5 x.length c' rfl Try.underlying29 Try.underlying5 Try.underlying9; clear hI)
                  go_simp
                  exact rfl
              intro W hW
              have hW : Gr w2 W := hW
              simp only [List.reverse_cons, List.reverse_nil, List.nil_append, List.cons_append, Vc.finish, Act.put, List.setIfInBounds_toArray, List.set_cons_zero, List.set_cons_succ]
              go_wp2
              go_roundw
              case rel => exact ⟨l + 1, by omega, .inl (by omega), by go_num, Lib.hid (fun i hi => hg3.out i (by omega)), hg.trans' (hg2.trans' hW)⟩
              case measure => simp [intOf]; omega
            · have hRf := Lib.hid (hbad.out (by rw [hget]; intro e; exact hxy (Option.some.inj e)))
              have hxb : (x == qb) = false := by simpa using hxy
              go_wp2_with (go_at_call 44; refine (HRd.out _ hg nm hnm x hget).mono ?_; rintro e w2 ⟨A', c', rfl, hr', hg2⟩; have y1 := hg2.cell x1)
              replace hr' := Lib.hid hr'
              replace y1 := Lib.hid y1
              refine Vc.wp_region_facts ⟨Gr, fun _ => Gr, fun _ W => Gr w2 W, []⟩ (by kernel_rfl) (by kernel_rfl) (fun _ _ _ h h' => h'.trans' h) (Gr.draw _) ?_
              repeat
                refine Vc.Walk.pure (v := ?_) (fun _ => Gr.rfl' _) rfl (by first | exact Vc.GuardYes.no rfl | exact Vc.GuardYes.yes rfl rfl) rfl rfl ?_ ?_
                rotate_left
                · intro _ W hI
                  (have y2 := hI.g.cell y1.out; have hcv1 := HC1.out _ (hg2.trans' hI.g); have hcv3 := run_str (P := Try.prog) (hr'.out.gr hI.g) 29 9 5 x.length c' rfl Try.underlying29 Try.underlying5 Try.underlying9; clear hI)
                  go_simp
                  exact rfl
              intro W hW
              have hW : Gr w2 W := hW
              simp only [List.reverse_cons, List.reverse_nil, List.nil_append, List.cons_append, Vc.finish, Act.put, List.setIfInBounds_toArray, List.set_cons_zero, List.set_cons_succ]
              go_wp2
              go_ret
              rw [hRf.out]
              exact ⟨rfl, hg.trans' (hg2.trans' hW)⟩
        · have hlt2 : ¬ ((l : Int) < k) := by omega
          have hRt := Lib.hid (show R = true ↔ F.length = k + (j - k) from by
            constructor
            · intro h
              have := (HR2.out.1 h).2.2
              omega
            · exact fun h => HR2.out.2 ⟨fun i hi => hall2.out i hi (by omega), fun i hi h1 => hal3.out i hi (by omega) (by omega), by omega⟩)
          clear HR2 hall2 hal3 HRd HRn
          have HN2 := Lib.hid (HN.out _ hg)
          clear HN
          generalize hFl : F.length = fl at *
          by_cases hfl : fl = k + (j - k)
          · have hRR := Lib.hid (hRt.out.2 hfl)
            have hbe : ((fl : Int) == (k : Int) + ((j - k : Nat) : Int)) = true := by simp; omega
            have hbe2 : (fl : Int) = (k : Int) + ((j - k : Nat) : Int) := by omega
            clear hRt
            go_wp2_with (go_at_call 23; refine HN2.out.mono ?_; rintro e w2 ⟨A', n', c', rfl, hn', _, hg2⟩; subst hn')
            go_ret
            rw [hRR.out]
            exact ⟨rfl, hg.trans' hg2⟩
          · have hRR := Lib.hid (show R = false from by cases hb : R; rfl; exact absurd (hRt.out.1 hb) hfl)
            clear hRt
            go_wp2_with (go_at_call 23; refine HN2.out.mono ?_; rintro e w2 ⟨A', n', c', rfl, hn', _, hg2⟩; subst hn')
            go_ret
            rw [hRR.out]
            refine ⟨?_, hg.trans' hg2⟩
            simp
            omega
end
end Go.Proofs.Ytcfbkhgdlgnmgaa
set_option linter.unusedVariables false
set_option linter.unusedSimpArgs false
namespace Go.Proofs.Ytcfbkhgdlgnmgaa
open Go.RowKit Cd
structure Gd (l : List Fl) : Prop where
  nm : l.map (·.1) = strs4.take l.length
  ln : l.length ≤ 4
  sm : ∀ f ∈ l, f.2.length ≤ 60
theorem goodR_map (rs : List FlR) {n : Nat} (h : n ≤ 4) : Gd ((goodR rs n).map FlR.fl) := by
  have hl : ((goodR rs n).map FlR.fl).length = n := by rw [List.length_map, goodR_len]
  refine ⟨?_, by rw [hl]; exact h, fun f hf => ?_⟩
  · rw [hl]
    refine List.ext_getElem? (fun i => ?_)
    unfold goodR nmA
    rw [List.map_map, List.map_map, List.getElem?_map, List.getElem?_take]
    by_cases hi : i < n
    · rw [List.getElem?_range hi, if_pos hi]
      show some (strs4.getD i []) = _
      rw [List.getD_eq_getElem?_getD, List.getElem?_eq_getElem (show i < strs4.length by show i < 4; omega)]
      rfl
    · rw [if_neg hi, List.getElem?_eq_none (by simp; omega)]
      rfl
  · obtain ⟨g, hg, rfl⟩ := List.mem_map.1 hf
    unfold goodR at hg
    obtain ⟨i, hi, rfl⟩ := List.mem_map.1 hg
    show (List.take 60 _).length ≤ 60
    rw [List.length_take]
    omega
theorem Gd.nil : Gd [] := ⟨rfl, by simp, fun f hf => by cases hf⟩
theorem strs4_rising : strs4.Pairwise fun x y => bytesBefore x y = true := by decide
theorem rising_names {l : List Fl} {n : Nat} (h : l.map (·.1) = strs4.take n) : Files.Rising l := by
  have h1 : (l.map (·.1)).Pairwise fun x y => bytesBefore x y = true := by rw [h]; exact strs4_rising.sublist (List.take_sublist _ _)
  exact List.pairwise_map.1 h1
theorem Gd.rising {l : List Fl} (h : Gd l) : Files.Rising l := rising_names h.nm
theorem Gd.mem {l : List Fl} (h : Gd l) {f : Fl} (hf : f ∈ l) : f.1 ∈ strs4 := by
  have : f.1 ∈ l.map (·.1) := List.mem_map.2 ⟨f, hf, rfl⟩
  rw [h.nm] at this
  exact List.mem_of_mem_take this
theorem Gd.nodup {l : List Fl} (h : Gd l) : (l.map (·.1)).Nodup := by
  rw [h.nm]
  exact (by decide : strs4.Nodup).sublist (List.take_sublist _ _)
theorem strs4_ok : ∀ n ∈ strs4, nameBad n = false ∧ n ≠ jn ∧ n ≠ mk ∧ n.length ≤ 1 := by decide
theorem mayGo_ok : ∀ (l : List Fl) (seen : List Str), (∀ f ∈ l, nameBad f.1 = false ∧ f.2.length ≤ 8000) → (l.map (·.1)).Nodup → (∀ f ∈ l, f.1 ∉ seen) → mayGo seen l = 0
  | [], _, _, _, _ => rfl
  | (n, b) :: l, seen, h1, h2, h3 => by
    rw [List.map_cons, List.nodup_cons] at h2
    have h4 := h1 (n, b) (by simp)
    have h5 := h3 (n, b) (by simp)
    simp only at h4 h5
    unfold mayGo
    rw [if_neg (by simp [h4.1]), if_neg h5, if_neg (by omega)]
    refine mayGo_ok l _ (fun f hf => h1 f (by simp [hf])) h2.2 (fun f hf hm => ?_)
    rcases List.mem_append.1 hm with hm | hm
    · exact h3 f (by simp [hf]) hm
    · obtain e := List.mem_singleton.1 hm
      exact h2.1 (List.mem_map.2 ⟨f, hf, e⟩)
theorem Gd.may {l : List Fl} (h : Gd l) (h1 : 1 ≤ l.length) : mayM l = 0 := by
  unfold mayM
  have := h.ln
  rw [if_neg (by omega)]
  exact mayGo_ok l [] (fun f hf => ⟨(strs4_ok _ (h.mem hf)).1, by have := h.sm f hf; omega⟩) h.nodup (by simp)
theorem Gd.bytes {l : List Fl} (h : Gd l) : (bytesM l).length ≤ 700 := by
  have key : ∀ (l : List Fl), (∀ f ∈ l, f.1.length ≤ 20 ∧ f.2.length ≤ 60) → (l.flatMap fun f => textB f.1 ++ textB f.2).length ≤ l.length * 84 := by
    intro l
    induction l with
    | nil => simp
    | cons f l ih =>
      intro hh
      have h1 := ih (fun g hg => hh g (by simp [hg]))
      have h2 := hh f (by simp)
      rw [List.flatMap_cons, List.length_append, List.length_append, textB_length (by omega), textB_length (by omega), List.length_cons]
      omega
  have := key l (fun f hf => ⟨by have := (strs4_ok _ (h.mem hf)).2.2.2; omega, h.sm f hf⟩)
  have := h.ln
  unfold bytesM
  rw [List.length_cons]
  omega
theorem sum_le {α : Type} (g : α → Nat) (M : Nat) : ∀ l : List α, (∀ x ∈ l, g x ≤ M) → (l.map g).sum ≤ l.length * M
  | [], _ => by simp
  | x :: l, h => by
    have h1 := sum_le g M l (fun y hy => h y (by simp [hy]))
    have h2 := h x (by simp)
    rw [List.map_cons, List.sum_cons, List.length_cons, Nat.add_mul]
    omega
theorem Gd.used {l : List Fl} (h : Gd l) : Files.used l ≤ 240 := by
  have := sum_le (fun p : Str × Str => p.2.length) 60 l h.sm
  have := h.ln
  unfold Files.used
  omega
theorem Gd.grow {l : List Fl} (h : Gd l) (F : Files) : growF F l ≤ 240 := by
  have := sum_le (fun f : Fl => f.2.length - ((F.get f.1).getD []).length) 60 l (fun f hf => by have := h.sm f hf; omega)
  have := h.ln
  unfold growF
  omega
def bothF (old now : List Fl) : Files := now ++ old.drop now.length
theorem bothF_nil (old : List Fl) : bothF old [] = old := rfl
theorem bothF_nil2 (now : List Fl) : bothF [] now = now := by simp [bothF]
theorem both_names {old now : List Fl} (h1 : Gd old) (h2 : Gd now) : (bothF old now).map (·.1) = strs4.take (max now.length old.length) := by
  unfold bothF
  rw [List.map_append, List.map_drop, h1.nm, h2.nm]
  rcases Nat.le_total now.length old.length with h | h
  · rw [Nat.max_eq_right h]
    have := List.take_append_drop now.length (strs4.take old.length)
    rw [List.take_take, Nat.min_eq_left h] at this
    exact this
  · rw [Nat.max_eq_left h, List.drop_eq_nil_of_le (by rw [List.length_take]; omega), List.append_nil]
theorem Gd.both {old now : List Fl} (h1 : Gd old) (h2 : Gd now) : Gd (bothF old now) := by
  have hl : (bothF old now).length = max now.length old.length := by
    unfold bothF
    rw [List.length_append, List.length_drop]
    omega
  refine ⟨by rw [both_names h1 h2, hl], by rw [hl]; have := h1.ln; have := h2.ln; omega, fun f hf => ?_⟩
  rcases List.mem_append.1 hf with hf | hf
  · exact h2.sm f hf
  · exact h1.sm f (List.mem_of_mem_drop hf)
theorem putAll_both {old now : List Fl} (h1 : Gd old) (h2 : Gd now) : putAll old now = bothF old now := by
  have hb := (h1.both h2).rising
  refine files_ext (putAll_rising now h1.rising) hb (fun n => ?_)
  by_cases hn : n ∈ now.map (·.1)
  · obtain ⟨f, hf, rfl⟩ := List.mem_map.1 hn
    rw [putAll_in now h1.rising h2.nodup f hf]
    exact (get_of_mem hb (show (f.1, f.2) ∈ _ from List.mem_append_left _ hf)).symm
  · rw [putAll_out now h1.rising hn]
    cases hg : Files.get old n with
    | some x =>
      have hm := get_some hg
      refine (get_of_mem hb (List.mem_append_right _ ?_)).symm
      rw [← List.take_append_drop now.length old] at hm
      rcases List.mem_append.1 hm with hm | hm
      · exfalso
        apply hn
        have h3 : n ∈ (old.take now.length).map (·.1) := List.mem_map.2 ⟨_, hm, rfl⟩
        rw [List.map_take, h1.nm, List.take_take] at h3
        rw [h2.nm]
        rcases Nat.le_total now.length old.length with h | h
        · rwa [Nat.min_eq_left h] at h3
        · rw [Nat.min_eq_right h] at h3
          exact (List.take_sublist_take_left h).subset h3
      · exact hm
    | none =>
      symm
      rw [get_none] at hg ⊢
      intro p hp e
      rcases List.mem_append.1 hp with hp | hp
      · exact hn (List.mem_map.2 ⟨p, hp, e⟩)
      · exact hg p (List.mem_of_mem_drop hp) e
theorem isM_both {old now : List Fl} (h1 : Gd old) (h2 : Gd now) : IsM (bothF old now) old now := by
  have hb := (h1.both h2).rising
  have hnm : ∀ (l : List Fl) (h : Gd l) i, i < l.length → (l.getD i default).1 = nmA i := fun l h i hi => by
    have := congrArg (fun x => x.getD i []) h.nm
    simp only [List.getD_eq_getElem?_getD, List.getElem?_map, List.getElem?_take, if_pos hi, List.getElem?_eq_getElem hi, Option.map_some, Option.getD_some] at this ⊢
    rw [this]
    unfold nmA
    rw [List.getD_eq_getElem?_getD]
  have hin : ∀ (l : List Fl) i, i < l.length → l.getD i default ∈ l := fun l i hi => by
    rw [List.getD_eq_getElem?_getD, List.getElem?_eq_getElem hi]
    exact List.getElem_mem hi
  refine ⟨fun i hi => ?_, fun i h3 hi => ?_, ?_⟩
  · unfold wantA
    by_cases hk : i < now.length
    · rw [if_pos hk, hnm old h1 i hi, ← hnm now h2 i hk]
      exact get_of_mem hb (List.mem_append_left _ (hin now i hk))
    · rw [if_neg hk]
      refine get_of_mem hb (List.mem_append_right _ ?_)
      rw [List.getD_eq_getElem?_getD, List.getElem?_eq_getElem hi]
      show old[i] ∈ _
      have := List.getElem_mem (l := old.drop now.length) (n := i - now.length) (by rw [List.length_drop]; omega)
      rw [List.getElem_drop] at this
      simpa [show now.length + (i - now.length) = i by omega] using this
  · exact get_of_mem hb (List.mem_append_left _ (hin now i hi))
  · unfold bothF
    rw [List.length_append, List.length_drop]
theorem Gd.get_out {l : List Fl} (h : Gd l) {n : Str} (hn : n ∉ strs4) : Files.get l n = none := by
  rw [get_none]
  intro p hp e
  exact hn (e ▸ h.mem hp)
theorem jn4 : jn ∉ strs4 := by decide
theorem mk4 : mk ∉ strs4 := by decide
end Go.Proofs.Ytcfbkhgdlgnmgaa
set_option linter.unusedVariables false
set_option linter.unusedSimpArgs false
set_option maxRecDepth 100000
namespace Go.Proofs.Ytcfbkhgdlgnmgaa
open Go.RowKit
section
variable {X : Nat → Prop} {w0 W : World} {p : Nat} {s v' : V} {e0 : Int} {A B : Option Addr} {rs ts : List FlR}
theorem sv_commit (hS : Sv w0 W X p s) (hd : Sd s) (hf : FlS w0 (fun i => i < w0.heap.size) A rs) (n c : Nat) (hn : rs.length = n) (hl : n ≤ 255) (hc : n ≤ c) (hb : ∀ f ∈ rs, f.q.n ≤ 1000000) (he : commitM s (rs.map FlR.fl) = (v', e0)) :
    Calls Try.prog 19 #[.pointer (some ⟨p, 0, none⟩), .slice A n c] W fun e W' => e = .returned (.int .i64 e0) ∧ ∃ X', Sv w0 W' X' p v' := by
  subst hn
  refine (commit_any hS.at_ hd (hf.gr hS.gr) (fun i hi => ⟨fun hx => by have := hS.hi i hx; omega, Nat.lt_of_lt_of_le hi hS.gr.size⟩) c hl hc hb).mono ?_
  rintro e W' ⟨rfl, X', ha, hm⟩
  rw [he] at ha ⊢
  exact ⟨rfl, X', hS.step ha hm⟩
theorem sv_is (hS : Sv w0 W X p s) (hs : Sm s) (hd : s.dead = false) (hf : FlS w0 (fun i => i < w0.heap.size) A rs) (hf2 : FlS w0 (fun i => i < w0.heap.size) B ts) (n m c c2 : Nat) (hn : rs.length = n) (hm : ts.length = m) (hl : n ≤ 255) (hl2 : m ≤ 255) :
    Calls Try.prog 20 #[.pointer (some ⟨p, 0, none⟩), .slice A n c, .slice B m c2] W fun e W' => ∃ b : Bool, e = .returned (.bool b) ∧ (b = true ↔ IsM s.now (rs.map FlR.fl) (ts.map FlR.fl)) ∧ Sv w0 W' X p s := by
  subst hn
  subst hm
  refine (is_any hS.at_ hs hd (hf.gr hS.gr) (hf2.gr hS.gr) c c2 hl hl2).mono ?_
  rintro e W' ⟨b, rfl, hb, hg⟩
  exact ⟨b, rfl, hb, hS.more hg⟩
theorem sv_is_true (hS : Sv w0 W X p s) (hs : Sm s) (hd : s.dead = false) (hf : FlS w0 (fun i => i < w0.heap.size) A rs) (hf2 : FlS w0 (fun i => i < w0.heap.size) B ts) (n m c c2 : Nat) (hn : rs.length = n) (hm : ts.length = m) (hl : n ≤ 255) (hl2 : m ≤ 255) (hi : IsM s.now (rs.map FlR.fl) (ts.map FlR.fl)) :
    Calls Try.prog 20 #[.pointer (some ⟨p, 0, none⟩), .slice A n c, .slice B m c2] W fun e W' => e = .returned (.bool true) ∧ Sv w0 W' X p s := by
  refine (sv_is hS hs hd hf hf2 n m c c2 hn hm hl hl2).mono ?_
  rintro e W' ⟨b, rfl, hb, hg⟩
  rw [hb.2 hi]
  exact ⟨rfl, hg⟩
theorem sv_new (r : Int) (w : World) : Calls Try.prog 16 #[.int .i64 r] w fun e w' => ∃ p X, e = .returned (.pointer (some ⟨p, 0, none⟩)) ∧ Sv w w' X p (V.new r) := by
  refine (new_any r w).mono ?_
  rintro e w1 ⟨p, X, rfl, ha, hg, hx⟩
  exact ⟨p, X, rfl, Sv.new ha hg hx⟩
theorem good_new (h : FlS W (fun i => i < W.heap.size) A rs) (n c : Nat) (hn : rs.length = n) (k : Nat) (hk : k ≤ 4) (hl : n ≤ 10) :
    Calls Try.prog 12 #[.slice A n c, .int .i64 k] W fun e w' => ∃ A' c' gs, e = .returned (.slice A' (min n k) c') ∧ gs.length = min n k ∧ min n k ≤ c' ∧ FlS w' (fun i => i < w'.heap.size) A' gs ∧ Gd (gs.map FlR.fl) ∧ (∀ f ∈ gs, f.q.n ≤ 60) ∧ Gr W w' := by
  subst hn
  refine (good_any h (fun i hi => hi) c k hk (by unfold maxLen; omega)).mono ?_
  rintro e w' ⟨A', c', rfl, hf, hg⟩
  refine ⟨A', c', _, rfl, goodR_len _ _, hf.own.le.1, hf.fls.mono (fun i hi => hi.2), goodR_map rs (by omega), fun f hf' => ?_, hg⟩
  unfold goodR at hf'
  obtain ⟨i, _, rfl⟩ := List.mem_map.1 hf'
  exact Nat.min_le_right _ _
end
end Go.Proofs.Ytcfbkhgdlgnmgaa
set_option linter.unusedVariables false
set_option linter.unusedSimpArgs false
namespace Go.Proofs.Ytcfbkhgdlgnmgaa
open Go.RowKit Cd
theorem thn_ops {r : V × Int} {f : V → V × Int} {a b k : Nat} (h : r.1.ops ≤ a ∧ r.1.stop ≤ b) (hf : ∀ v, (f v).1.ops ≤ v.ops + k ∧ (f v).1.stop ≤ v.stop) : (V.thn r f).1.ops ≤ a + k ∧ (V.thn r f).1.stop ≤ b := by
  unfold V.thn
  split
  · exact ⟨by omega, h.2⟩
  · have := hf r.1
    exact ⟨by omega, by omega⟩
theorem writeM_ops (s : V) (l : List Fl) : (writeM s l).1.ops ≤ s.ops + (l.length + 5) ∧ (writeM s l).1.stop ≤ s.stop := by
  have := thn_ops (thn_ops (thn_ops (writeAll_ops l s) (fun v => ⟨flush_ops v, flush_stop v⟩)) (fun v => awayM_ops v mk)) (fun v => awayM_ops v jn)
  unfold writeM
  exact ⟨by omega, this.2⟩
theorem commitM_ops (s : V) (l : List Fl) : (commitM s l).1.ops ≤ s.ops + (l.length + 9) ∧ (commitM s l).1.stop ≤ s.stop := by
  unfold commitM
  split
  · exact ⟨by simp only; omega, Nat.le_refl _⟩
  · split
    · exact ⟨by simp only; omega, Nat.le_refl _⟩
    · have := thn_ops (thn_ops (putM_ops s jn (bytesM l)) (fun v => putM_ops v mk [])) (fun v => writeM_ops v l)
      exact ⟨by omega, this.2⟩
structure Ins (old now : List Fl) (dn : Bool) (v : V) : Prop where
  cl : Clean v.now v
  du : Dur 60 old now v.now
  dd : dn = true → DurA (putAll old now) v.now
  room : v.room = 5000
end Go.Proofs.Ytcfbkhgdlgnmgaa
set_option linter.unusedVariables false
set_option linter.unusedSimpArgs false
set_option maxRecDepth 100000
namespace Go.Proofs.Ytcfbkhgdlgnmgaa
open Go.RowKit
structure Sz (w0 wg : World) (Xg : Nat → Prop) (W : World) (X : Nat → Prop) (p : Nat) (s : V) : Prop where
  sv : Sv w0 W X p s
  mv : Mv wg Xg W X
section
variable {X X' Xg Z Z2 : Nat → Prop} {w0 wg W W' : World} {p : Nat} {s s' v' : V} {e0 : Int} {A B : Option Addr} {rs ts : List FlR}
theorem Sz.step (h : Sz w0 wg Xg W X p s) (ha : At W' X' p s') (hm : Mv W X W' X') : Sz w0 wg Xg W' X' p s' := ⟨h.sv.step ha hm, h.mv.trans hm⟩
theorem Sz.more (h : Sz w0 wg Xg W X p s) (hg : Gr W W') : Sz w0 wg Xg W' X p s := ⟨h.sv.more hg, h.mv.trans (Mv.of_gr hg X)⟩
theorem Sz.fls (h : Sz w0 wg Xg W X p s) (hf : FlS wg Z A rs) (hz : ∀ i, Z i → ¬ Xg i ∧ i < wg.heap.size) : FlS W Z A rs := hf.tr h.mv.tr (fun i hi => (hz i hi).1)
end
end Go.Proofs.Ytcfbkhgdlgnmgaa
set_option linter.unusedVariables false
set_option linter.unusedSimpArgs false
namespace Go.Proofs.Ytcfbkhgdlgnmgaa
open Go.RowKit Cd
structure Lv (F : Files) (m : Nat) (v : V) : Prop where
  now : v.now = F
  live : v.dead = false
  stop : v.stop = 0
  room : v.room = m
  up : F.Rising
theorem lv_new (r : Int) : Lv [] (roomOf r) (V.new r) := ⟨rfl, rfl, rfl, rfl, List.Pairwise.nil⟩
theorem lv_write {F : Files} {m : Nat} {v : V} (h : Lv F m v) {n b : Str} (hn : n ≠ []) (hl : n.length ≤ 20) (hr : F.used - ((F.get n).getD []).length + b.length ≤ m) :
    ∃ v', v.write n b = (v', 0) ∧ Lv (F.put n b) m v' ∧ v'.ops = v.ops + 1 := by
  have hd : (v.done ⟨n, b, false⟩).dead = false := by
    show (if v.stop = 0 then v.dead else _) = false
    rw [if_pos h.stop, h.live]
  refine ⟨_, by rw [write_out h.live hn hl (by rw [h.now, h.room]; exact hr), hd]; rfl, ⟨?_, hd, ?_, h.room, put_rising h.up _ _⟩, rfl⟩
  · show (Ch.act ⟨n, b, false⟩ v.now) = _
    rw [h.now]
    rfl
  · show v.stop - 1 = 0
    rw [h.stop]
theorem lv_flush {F : Files} {m : Nat} {v : V} (h : Lv F m v) : ∃ v', v.flush = (v', 0) ∧ Clean F v' ∧ v'.stop = 0 ∧ v'.room = m ∧ v'.ops = v.ops + 1 := by
  have hd : v.step.dead = false := by rw [step_dead, if_pos h.stop, h.live]
  refine ⟨{ v.step with kept := v.now, since := [] }, by rw [flush_out h.live, hd]; rfl, ⟨h.now, h.now, rfl, hd, h.up⟩, ?_, h.room, rfl⟩
  show v.stop - 1 = 0
  rw [h.stop]
theorem Gd.take {l : List Fl} (h : Gd l) (j : Nat) : Gd (l.take j) := by
  refine ⟨?_, by rw [List.length_take]; have := h.ln; omega, fun f hf => h.sm f (List.mem_of_mem_take hf)⟩
  rw [List.map_take, h.nm, List.take_take, List.length_take]
theorem putAll_nil {l : List Fl} (h : Gd l) : putAll [] l = l := by rw [putAll_both Gd.nil h, bothF_nil2]
theorem used_take (l : List Fl) {j : Nat} (h : j < l.length) : Files.used (l.take (j + 1)) = Files.used (l.take j) + l[j].2.length := by
  unfold Files.used
  rw [List.take_succ_eq_append_getElem h, List.map_append, List.sum_append]
  rfl
theorem used_take_le (l : List Fl) (j : Nat) : Files.used (l.take j) ≤ Files.used l := by
  have : Files.used l = Files.used (l.take j) + Files.used (l.drop j) := by
    unfold Files.used
    rw [← List.sum_append, ← List.map_append, List.take_append_drop]
  omega
theorem room_write {old : List Fl} {m : Nat} {v : V} (h : Gd old) {j : Nat} (hj : j < old.length) (hv : Lv (old.take j) m v) (hm : Files.used old ≤ m) :
    ∃ v', v.write old[j].1 old[j].2 = (v', 0) ∧ Lv (old.take (j + 1)) m v' ∧ v'.ops = v.ops + 1 := by
  have h4 := strs4_ok _ (h.mem (List.getElem_mem hj))
  have hu := used_take old hj
  have hu2 := used_take_le old (j + 1)
  obtain ⟨v', h1, h2, h3⟩ := lv_write hv (n := old[j].1) (b := old[j].2) (nameBad_len h4.1).1 (nameBad_len h4.1).2.1 (by omega)
  have e : Files.put (old.take j) old[j].1 old[j].2 = old.take (j + 1) := by
    rw [← putAll_nil (h.take (j + 1)), List.take_succ_eq_append_getElem hj]
    conv => lhs; rw [← putAll_nil (h.take j)]
    unfold putAll
    rw [List.foldl_append]
    rfl
  rw [e] at h2
  exact ⟨v', h1, h2, h3⟩
def needB (old now : List Fl) : Nat := (bytesM now).length + Files.used old + growF old now
theorem needB_le {old now : List Fl} (h1 : Gd old) (h2 : Gd now) : needB old now ≤ 1500 := by
  have hb := h2.bytes
  have hu := h1.used
  have hg := h2.grow old
  unfold needB
  omega
theorem bytesM_ge {l : List Fl} (h : 1 ≤ l.length) : 3 ≤ (bytesM l).length := by
  cases l with
  | nil => simp at h
  | cons f l =>
    unfold bytesM textB
    simp only [List.length_cons, List.flatMap_cons, List.length_append, le_length]
    omega
def wasL (old : List Fl) (j : Nat) : Nat := if h : j < old.length then old[j].2.length else 0
theorem Gd.name {l : List Fl} (h : Gd l) {j : Nat} (hj : j < l.length) : l[j].1 = nmA j := by
  have := congrArg (fun x => x.getD j []) h.nm
  simp only [List.getD_eq_getElem?_getD, List.getElem?_map, List.getElem?_take, if_pos hj, List.getElem?_eq_getElem hj, Option.map_some, Option.getD_some] at this
  rw [this]
  unfold nmA
  rw [List.getD_eq_getElem?_getD]
theorem nmA_inj : ∀ i : Nat, i < 4 → ∀ j : Nat, j < 4 → nmA i = nmA j → i = j := by decide
theorem was_get {old now : List Fl} (h1 : Gd old) (h2 : Gd now) {j : Nat} (hj : j < now.length) : ((Files.get old now[j].1).getD []).length = wasL old j := by
  unfold wasL
  split
  · rename_i h
    rw [h2.name hj, ← h1.name h, get_of_mem h1.rising (show (old[j].1, old[j].2) ∈ old from List.getElem_mem h)]
    rfl
  · rename_i h
    rw [get_none.2]
    · rfl
    · intro p hp e
      obtain ⟨i, hi, rfl⟩ := List.getElem_of_mem hp
      rw [h1.name hi, h2.name hj] at e
      have := nmA_inj i (by have := h1.ln; omega) j (by have := h2.ln; omega) e
      omega
theorem grow_take {old now : List Fl} (h1 : Gd old) (h2 : Gd now) {j : Nat} (hj : j < now.length) : growF old (now.take (j + 1)) = growF old (now.take j) + (now[j].2.length - wasL old j) := by
  rw [← was_get h1 h2 hj]
  unfold growF
  rw [List.take_succ_eq_append_getElem hj, List.map_append, List.sum_append]
  rfl
theorem room_commit {old now : List Fl} {v : V} (h : Clean old v) (h1 : Gd old) (h2 : Gd now) (hn : 1 ≤ now.length) (hs : v.stop = 0) (hr : needB old now ≤ v.room) :
    ∃ v', commitM v now = (v', 0) ∧ Clean (bothF old now) v' ∧ v'.ops = v.ops + now.length + 9 := by
  unfold needB at hr
  rcases commit_stage (M := 60) h (h2.may hn) (h1.get_out jn4) (h1.get_out mk4) (by omega) (fun n x _ hx => h1.sm _ (get_some hx)) h2.sm with ⟨k1, k2, k3, k4, k5⟩ | ⟨k1, _⟩
  · rw [putAll_both h1 h2] at k2
    exact ⟨(commitM v now).1, by rw [← k1], k2, k4⟩
  · exact absurd hs k1
theorem room_full {old now : List Fl} {v : V} (h : Clean old v) (h2 : Gd now) (hn : 1 ≤ now.length) (hr : v.room < needB old now) : commitM v now = (v, 14) := by
  have hf : fitsM v now (bytesM now) = 14 := by
    unfold fitsM
    have hg : growM v now = growF old now := by unfold growM growF; rw [h.now]
    rw [h.live, if_neg Bool.false_ne_true, h.now, hg, if_pos]
    unfold needB at hr
    omega
  unfold commitM
  rw [h2.may hn, if_neg (by decide), hf, if_pos (by decide)]
end Go.Proofs.Ytcfbkhgdlgnmgaa
set_option linter.unusedVariables false
set_option linter.unusedSimpArgs false
set_option maxRecDepth 100000
namespace Go.Proofs.Ytcfbkhgdlgnmgaa.Cd
open Go.RowKit
def AppB (w : World) (B : Nat) (A : Option Addr) (xs : List UInt8) (bs : List UInt8) (e : Ending) (w' : World) : Prop :=
  ∃ A' n' c', e = .returned (.slice A' n' c') ∧ Hid (bs.length = n') ∧ AppTo w B 5 1 A (xs.map bv) w' A' n' c' (bs.map bv)
theorem u8_mod (k : Int) : Value.int .u8 (k % 256) = bv (u8 k) := by
  rw [← u8_wrap k]
  simp [IntKind.wrap, IntKind.bits, IntKind.signed]
theorem xByte_any (B : Nat) (A : Option Addr) (n c : Nat) (bs : List UInt8) (k : Int) (w : World) (hn : Hid (bs.length = n)) (hx : Own w B 5 1 A n c (bs.map bv)) (hB : B ≤ w.heap.size) (hl : n ≤ 140737488351200) :
    Calls Try.prog 21 #[.slice A n c, .int .i64 k] w (AppB w B A bs (bs ++ [u8 k])) := by
  obtain ⟨i0, hi, hz0, hz1, hz2⟩ := info_parts info_u8
  have hu := Lib.hid (u8_mod k)
  go_enter Try.func21, Try.ntmps21
  go_wp2_with (at_builtin; refine wpList_append _ rfl _ _ 29 rfl B 5 i0 _ 1 1 Try.underlying29 hi hz0 hz1 hz2 rfl (by omega) A n c _ rfl (hx.alloc _) _ 1 1 _ rfl rfl (Rd.one_new _ _ _) (by simp; rfl) (by omega) (by unfold maxLen; omega) (by simp; omega) ?_; intro A' c' w' hown hk)
  go_ret
  rw [hu.out] at hown
  exact ⟨A', n + 1, c', rfl, Lib.hid (by have := hn.out; simp; omega), by
    have h1 := ((AppTo.refl hx hB).gr (Gr.alloc1 _ _)).step hown hk
    simpa using h1⟩
theorem le_two (n : Nat) (h : n ≤ 65535) : [Value.int .u8 ((n : Int) % 256), .int .u8 ((n : Int) / 256)] = (le n 2).map bv := by
  have h1 : (n : Int) / 256 = ((n / 256 % 256 : Nat) : Int) := by omega
  rw [h1]
  simp [le, bv, List.range_succ]
theorem xText_any (B : Nat) (A : Option Addr) (n c : Nat) (bs : List UInt8) (s : ByteArray) (w : World) (hn : Hid (bs.length = n)) (hx : Own w B 5 1 A n c (bs.map bv)) (hB : B ≤ w.heap.size) (hl : n ≤ 140737488285000) (hs : s.size ≤ maxLen) :
    Calls Try.prog 33 #[.slice A n c, .string s] w (AppB w B A bs (bs ++ le (cutS s).length 2 ++ cutS s)) := by
  obtain ⟨i0, hi, hz0, hz1, hz2⟩ := info_parts info_u8
  unfold maxLen at hs
  have hBa : ∀ o : Obj, B ≤ (w.alloc o).heap.size := fun o => by have := (Gr.alloc1 w o).size; omega
  by_cases h : s.size ≤ 65535
  · rw [cutS_small h]
    have e : s.data.toList.length = s.size := by simp
    rw [e]
    have h2 := Lib.hid (le_two s.size h)
    have hl2 := Lib.hid (le_length s.size 2)
    clear e
    generalize hL : le s.size 2 = L at *
    clear hL
    go_enter Try.func33, Try.ntmps33
    go_wp2_with (first
      | (at_builtin; with_reducible refine wpList_append (o := ⟨some 19, _, _, _, _, _⟩) _ rfl _ _ 29 rfl B 5 i0 _ 1 1 Try.underlying29 hi hz0 hz1 hz2 rfl (by omega) A n c _ rfl (hx.alloc _) _ 2 2 _ rfl (by simp) (Rd.new _ _ _) (by simp; exact ⟨rfl, rfl⟩) (by omega) (by unfold maxLen; omega) (hBa _) ?_
         intro A2 c2 w2 hown2 hk2
         rw [h2.out] at hown2
         have hto2 := ((AppTo.refl hx hB).gr (Gr.alloc1 _ _)).step hown2 hk2
         clear hown2 hk2)
      | (at_builtin; with_reducible refine wpList_append_string (o := ⟨some 21, _, _, _, _, _⟩) _ rfl _ _ 29 9 rfl B 5 i0 Try.underlying29 Try.underlying9 hi hz0 hz1 hz2 _ _ _ _ rfl hto2.own s rfl (by omega) (by have := hto2.base; have := hto2.size; omega) ?_
         intro A3 c3 w3 hown3 hk3))
    go_ret
    have hto3 := hto2.step hown3 hk3
    exact ⟨A3, _, c3, rfl, Lib.hid (by have := hn.out; have := hl2.out; simp; omega), by simpa using hto3⟩
  · rw [cutS_large (by omega)]
    have e : (s.extract 0 65535).data.toList.length = min 65535 s.size := by simp
    rw [e]
    have h2 := Lib.hid (le_two (min 65535 s.size) (by omega))
    have hl2 := Lib.hid (le_length (min 65535 s.size) 2)
    clear e
    generalize hL : le (min 65535 s.size) 2 = L at *
    clear hL
    go_enter Try.func33, Try.ntmps33
    go_wp2_with (first
      | (at_builtin; with_reducible refine wpList_append (o := ⟨some 19, _, _, _, _, _⟩) _ rfl _ _ 29 rfl B 5 i0 _ 1 1 Try.underlying29 hi hz0 hz1 hz2 rfl (by omega) A n c _ rfl (hx.alloc _) _ 2 2 _ rfl (by simp) (Rd.new _ _ _) (by simp; exact ⟨rfl, rfl⟩) (by omega) (by unfold maxLen; omega) (hBa _) ?_
         intro A2 c2 w2 hown2 hk2
         rw [h2.out] at hown2
         have hto2 := ((AppTo.refl hx hB).gr (Gr.alloc1 _ _)).step hown2 hk2
         clear hown2 hk2)
      | (at_builtin; with_reducible refine wpList_append_string (o := ⟨some 21, _, _, _, _, _⟩) _ rfl _ _ 29 9 rfl B 5 i0 Try.underlying29 Try.underlying9 hi hz0 hz1 hz2 _ _ _ _ rfl hto2.own _ rfl (by simp; omega) (by have := hto2.base; have := hto2.size; omega) ?_
         intro A3 c3 w3 hown3 hk3))
    go_ret
    have hto3 := hto2.step hown3 hk3
    have e3 : n + 2 + (s.extract 0 65535).size = n + 2 + min 65535 s.size := by simp
    rw [e3] at hto3
    exact ⟨A3, _, c3, rfl, Lib.hid (by have := hn.out; have := hl2.out; simp; omega), by simpa using hto3⟩
end Go.Proofs.Ytcfbkhgdlgnmgaa.Cd
set_option linter.unusedVariables false
set_option linter.unusedSimpArgs false
set_option maxRecDepth 100000
namespace Go.Proofs.Ytcfbkhgdlgnmgaa
open Go.RowKit Go.Maps Go.Sort
attribute [local go_sem] Vc.known_tmp Vc.known_const Vc.known_func Vc.known_global Vc.lk Vc.okUpon Vc.Fact.holds
def frC (f : Fl) : List Value := [encStr f.1, encStr f.2]
theorem frC_len : ∀ l : List Fl, (l.flatMap frC).length = l.length * 2
  | [] => rfl
  | x :: r => by simp [List.flatMap_cons, frC, frC_len r]; omega
theorem frC_get : ∀ (l : List Fl) {i j : Nat} (h : i < l.length), j < 2 → (l.flatMap frC)[i * 2 + j]? = (frC l[i])[j]?
  | x :: r, 0, j, h, hj => by
    rw [List.flatMap_cons, List.getElem?_append_left (by simp [frC]; omega)]
    simp
  | x :: r, i + 1, j, h, hj => by
    rw [List.flatMap_cons, List.getElem?_append_right (by simp [frC]; omega), show (i + 1) * 2 + j - (frC x).length = i * 2 + j from by simp [frC]; omega]
    exact frC_get r (by simpa using h) hj
theorem frC_at {w : World} {A : Option Addr} {l : List Fl} (h : Rd w A (l.flatMap frC)) {i : Nat} (hi : i < l.length) : ∃ g off, A = some ⟨g, off, none⟩ ∧ w.cell? ⟨g, off + i * 2, none⟩ = some (encStr l[i].1) ∧ w.cell? ⟨g, off + i * 2 + 1, none⟩ = some (encStr l[i].2) := by
  obtain ⟨g, off, rfl, hg⟩ := h.spot (by rw [frC_len]; omega)
  exact ⟨g, off, rfl, hg _ _ (frC_get l (j := 0) hi (by omega)), hg _ _ (frC_get l (j := 1) hi (by omega))⟩
theorem info_rfile : (Try.prog.info? 62).map (fun i => (i.zero, i.size, i.bytes)) = some (some (.agg #[.string ByteArray.empty, .string ByteArray.empty]), 2, 32) := by kernel_rfl
theorem frC_snoc (l : List Fl) {j : Nat} (h : j < l.length) : (l.take (j + 1)).flatMap frC = (l.take j).flatMap frC ++ frC l[j] := by
  rw [List.take_succ_eq_append_getElem h, List.flatMap_append]
  simp
section
variable {Z : Nat → Prop} {w w' : World} {A : Option Addr} {rs : List FlR}
set_option maxHeartbeats 1000000 in
theorem of_any (h : FlS w Z A rs) (c : Nat) (hl : rs.length ≤ 255) :
    Calls Try.prog 14 #[.slice A rs.length c] w fun e w' => ∃ A' c', e = .returned (.slice A' rs.length c') ∧ rs.length ≤ c' ∧ Rd w' A' ((rs.map FlR.fl).flatMap frC) ∧ Gr w w' := by
  obtain ⟨i0, hi, hz0, hz1, hz2⟩ := info_parts info_rfile
  have hlm : (rs.map FlR.fl).length = rs.length := List.length_map ..
  generalize hn : rs.length = n at hl hlm ⊢
  go_enter Try.func14, Try.ntmps14
  go_wp2_with fail
  go_loopw [3, 4] (fun t i wr => ∃ j : Nat, j ≤ n ∧ i = .int .i64 j ∧ ∃ A' c', t = .slice A' j c' ∧ Hid (Own wr w.heap.size 62 2 A' j c' (((rs.map FlR.fl).take j).flatMap frC)) ∧ Gr w wr) (fun _ i _ => n - (intOf i).toNat)
  case atStart => exact ⟨0, by omega, rfl, none, 0, rfl, Lib.hid (Own.nil _ _ _ _), Gr.rfl' _⟩
  case round =>
    obtain ⟨j, hj, rfl, A1, c1, rfl, hfl, hg⟩ := hrel
    by_cases hlt : j < n
    · have hjl : j < rs.length := by omega
      have hgs := frC_snoc (rs.map FlR.fl) (j := j) (by omega)
      rw [List.getElem_map] at hgs
      have hgs := Lib.hid hgs
      obtain ⟨g, off, rfl, x0, x1⟩ := (h.gr hg).at_ hjl
      have hqq := Lib.hid (fun W (hW : Gr wr W) => ((h.gr hg).gr hW).ok _ (List.getElem_mem hjl))
      have hlen1 := (h.ok _ (List.getElem_mem hjl)).1.len.out
      have HC1 := Lib.hid (fun W (hW : Gr wr W) => run_str (P := Try.prog) (hqq.out W hW).1.rd 29 9 5 rs[j].q.n rs[j].q.c hlen1.symm Try.underlying29 Try.underlying5 Try.underlying9)
      obtain ⟨qb, hqb⟩ : ∃ x : Str, x = rs[j].q.b := ⟨_, rfl⟩
      have hfc : frC rs[j].fl = [encStr rs[j].nm, .string ⟨qb.toArray⟩] := by rw [hqb]; rfl
      rw [hfc] at hgs
      rw [← hqb] at HC1
      clear hqq hlen1 hqb hfc
      generalize rs[j].q.n = qn at *
      generalize rs[j].q.A = qA at *
      generalize rs[j].q.c = qc at *
      generalize rs[j].nm = nm at *
      go_wp2_with fail
      refine Vc.wp_region_split ⟨Gr, fun _ => Gr, fun _ W => Gr wr W, []⟩ 14 [] (by kernel_rfl) (by kernel_rfl) (by kernel_rfl) (by decide) (by simp) (by simp) (by simp) (fun _ _ h => h.size) (fun _ _ _ h => h.size) (fun _ _ _ h h' => h'.trans' h) (Gr.draw _) ?_
      repeat
        refine Vc.Walk.pure (v := ?_) (fun _ => Gr.rfl' _) rfl (by first | exact Vc.GuardYes.no rfl | exact Vc.GuardYes.yes rfl rfl) rfl rfl ?_ ?_
        rotate_left
        · intro _ W hI
          (have y0 := hI.g.cell x0; have y1 := hI.g.cell x1; have hcv := HC1.out _ hI.g; clear hI)
          go_simp
          exact rfl
      refine Vc.Walk.call (.fits (Vc.All fun v W => ∃ g, v = .slice (some ⟨g, 0, none⟩) 1 1 ∧ Row W g 62 [encStr nm, .string ⟨qb.toArray⟩])) (Vc.All.stable (fun u W W' hl hf => by obtain ⟨g, e, hR⟩ := hf; exact ⟨g, e, hR.gr hl⟩) (fun _ u W W' _ hl hf => by obtain ⟨g, e, hR⟩ := hf; exact ⟨g, e, hR.gr hl⟩)) (.no rfl) rfl rfl ?_ ?_
      · intro k W hI
        clear hI
        go_simp
        exact ⟨⟨_, rfl, Row.new W _ [encStr nm, .string ⟨qb.toArray⟩]⟩, Gr.alloc1 _ _⟩
      intro W hW
      have hW : Gr wr W := hW
      simp only [List.reverse_cons, List.reverse_nil, List.nil_append, List.cons_append, Vc.finish, Act.put, List.setIfInBounds_toArray, List.set_cons_zero, List.set_cons_succ]
      rintro u24 ⟨g24, rfl, hR24⟩ _
      simp only [List.drop_succ_cons, List.drop_zero]
      have hown := Lib.hid (hfl.out.gr hW)
      have hsz := Nat.le_trans hg.size hW.size
      have hR24 := Lib.hid hR24
      clear x0 x1 HC1
      go_wp2_with (at_builtin; with_reducible refine wpList_append (o := ⟨some 25, _, _, _, _, _⟩) _ rfl _ _ 27 rfl w.heap.size 62 i0 _ 2 32 Try.underlying27 hi hz0 hz1 hz2 rfl (by omega) A1 j c1 _ rfl hown.out _ 1 1 [encStr nm, .string ⟨qb.toArray⟩] rfl rfl (Rd.of_row' hR24.out) (by simp [Value.oneCell']) (by omega) (by unfold maxLen; omega) hsz ?_
                   intro A6 c6 w6 ho6 hk6
                   have hq6 := Lib.hid (And.intro ho6 hk6)
                   clear ho6 hk6)
      go_roundw
      case rel =>
        obtain ⟨q1, q2⟩ := hq6.out
        refine ⟨j + 1, by omega, by go_num, A6, c6, rfl, Lib.hid ?_, Gr.grownBk (hg.trans' hW) q2.grown (fun g' e => (hown.out.blk g' e).1)⟩
        rw [hgs.out]
        exact q1
      case measure => simp [intOf]; omega
    · obtain rfl : j = n := by omega
      have hr := hfl.out.rd
      have hle := hfl.out.le.1
      rw [List.take_of_length_le (by omega)] at hr
      have hr := Lib.hid hr
      clear hfl
      go_wp2
      go_ret
      exact ⟨A1, c1, rfl, hle, hr.out, hg⟩
end
def OwnBs (B : Nat) (bs : Str) (v : Value) (W : World) : Prop := ∃ A n c, v = .slice A n c ∧ Hid (bs.length = n) ∧ Own W B 5 1 A n c (bs.map bv)
theorem OwnBs.gr {B : Nat} {bs : Str} {v : Value} {w w' : World} (hg : Gr w w') (h : OwnBs B bs v w) : OwnBs B bs v w' := by
  obtain ⟨A, n, c, e, hn, ho⟩ := h
  exact ⟨A, n, c, e, hn, ho.gr hg⟩
theorem OwnBs.of {w0 w w' : World} {A : Option Addr} {n c : Nat} {xs : List Value} {bs bs' : Str} {e : Ending} (h : Cd.AppB w w0.heap.size A bs' bs e w') (hg : Gr w0 w) (ho : Own w w0.heap.size 5 1 A n c xs) : ∃ v, e = .returned v ∧ OwnBs w0.heap.size bs v w' ∧ Gr w0 w' := by
  obtain ⟨A', n', c', rfl, hn', ht⟩ := h
  exact ⟨_, rfl, ⟨_, _, _, rfl, hn', ht.own⟩, Gr.grownBk hg ht.grown (fun g e => (ho.blk g e).1)⟩
theorem rtext_any (w0 : World) (A : Option Addr) (n c : Nat) (bs s : Str) (w : World) (hg : Gr w0 w) (hn : Hid (bs.length = n)) (hx : Own w w0.heap.size 5 1 A n c (bs.map bv)) (hl : n ≤ 140737488285000) (hs : s.length ≤ maxLen) :
    Calls Try.prog 33 #[.slice A n c, .string ⟨s.toArray⟩] w fun e w' => ∃ v, e = .returned v ∧ OwnBs w0.heap.size (bs ++ textB s) v w' ∧ Gr w0 w' := by
  refine (Cd.xText_any w0.heap.size A n c bs ⟨s.toArray⟩ w hn hx hg.size hl (by simpa [ByteArray.size] using hs)).mono fun e w' h => ?_
  rw [text_is] at h
  exact OwnBs.of h hg hx
set_option maxHeartbeats 4000000 in
theorem rbytes_any {w : World} {A : Option Addr} {l : List Fl} (h : Rd w A (l.flatMap frC)) (c : Nat) (hl : l.length ≤ 255) (hb : ∀ f ∈ l, f.1.length ≤ maxLen ∧ f.2.length ≤ maxLen) :
    Calls Try.prog 13 #[.slice A l.length c] w fun e w' => e = .returned (.string ⟨(bytesM l).toArray⟩) ∧ Gr w w' := by
  rw [← bytesTo_all l]
  generalize hn : l.length = n at hl ⊢
  have H0 := Lib.hid (show Calls Try.prog 21 #[.slice none 0 0, .int .i64 n] w fun e w' => ∃ v, e = .returned v ∧ OwnBs w.heap.size (bytesTo n []) v w' ∧ Gr w w' from
    (Cd.xByte_any w.heap.size none 0 0 [] n w (Lib.hid rfl) (Own.nil _ _ _ _) (Nat.le_refl _) (by omega)).mono fun e w' h => OwnBs.of h (Gr.rfl' _) (Own.nil _ _ _ _))
  go_enter Try.func13, Try.ntmps13
  go_wp2_with (go_at_call 21; refine H0.out.mono ?_; rintro e w1 ⟨v1, rfl, hv1, hg1⟩)
  clear H0
  go_loopw [3, 4] (fun t i wr => ∃ j : Nat, j ≤ n ∧ i = .int .i64 j ∧ Hid (OwnBs w.heap.size (bytesTo n (l.take j)) t wr) ∧ Gr w wr) (fun _ i _ => n - (intOf i).toNat)
  case atStart => exact ⟨0, by omega, rfl, Lib.hid hv1, hg1⟩
  case round =>
    obtain ⟨j, hj, rfl, hv, hg⟩ := hrel
    by_cases hlt : j < n
    · have hjl : j < l.length := by omega
      obtain ⟨g, off, rfl, x0, x1⟩ := frC_at h hjl
      have hsn := bytesTo_snoc n (l.take j) l[j]
      rw [← List.take_succ_eq_append_getElem hjl] at hsn
      have hle := bytesTo_le n (l.take j)
      rw [List.length_take] at hle
      obtain ⟨A1, n1, c1, rfl, hn1, ho1⟩ := hv.out
      obtain ⟨hb1, hb2⟩ := hb _ (List.getElem_mem hjl)
      clear hv
      obtain ⟨B, hB⟩ : ∃ B, B = bytesTo n (l.take j) := ⟨_, rfl⟩
      rw [← hB] at hsn hle hn1 ho1
      generalize l[j].1 = nm at *
      generalize l[j].2 = qb at *
      have hB1 := hn1.out
      have hntl := textB_le nm
      have HT1 := Lib.hid (fun W (hgW : Gr w W) (hgr : Gr wr W) => rtext_any w A1 n1 c1 B nm W hgW hn1 (ho1.gr hgr) (by omega) hb1)
      obtain ⟨B2, hB2⟩ : ∃ x, x = B ++ textB nm := ⟨_, rfl⟩
      obtain ⟨B3, hB3⟩ : ∃ x, x = B2 ++ textB qb := ⟨_, rfl⟩
      have hBn : B2.length ≤ 140737488285000 := by rw [hB2, List.length_append]; omega
      have HT2 := Lib.hid (fun A2 n2 c2 W (hgW : Gr w W) (hn2 : Hid (B2.length = n2)) (ho2 : Own W w.heap.size 5 1 A2 n2 c2 (B2.map bv)) => rtext_any w A2 n2 c2 B2 qb W hgW hn2 ho2 (by have := hn2.out; omega) hb2)
      have hsn := Lib.hid (show bytesTo n (l.take (j + 1)) = B3 from by rw [hB3, hB2]; exact hsn)
      rw [← hB2] at HT1
      rw [← hB3] at HT2
      clear hB hB2 hB3 hB1 hntl hle hBn ho1 hb1 hb2
      go_wp2_with fail
      refine Vc.wp_region_facts ⟨Gr, fun _ _ _ => True, fun k W => Gr w W ∧ (k = 0 → Gr wr W), [6, 12]⟩ (by kernel_rfl) (by kernel_rfl) (fun _ _ _ h h' => ⟨h'.1.trans' h, fun e => (h'.2 e).trans' h⟩) ⟨hg.trans' (Gr.draw _), fun _ => Gr.draw _⟩ ?_
      repeat
        refine Vc.Walk.pure (v := ?_) (fun _ => Gr.rfl' _) rfl (by first | exact Vc.GuardYes.no rfl | exact Vc.GuardYes.yes rfl rfl) rfl rfl ?_ ?_
        rotate_left
        · intro _ W hI
          (have y0 := hI.g.1.cell x0; have y1 := hI.g.1.cell x1; clear hI)
          go_simp
          exact rfl
      refine Vc.Walk.any (.fits (Vc.At 1 (OwnBs w.heap.size B2))) (Vc.At.stable (fun u W W' hl hf => OwnBs.gr hl hf)) (.no rfl) ?_ ?_
      · intro ρ k W hI hf
        obtain rfl := hI.eq 0 rfl
        obtain ⟨hρ0, hρ1, hρ2, _⟩ := hf
        have e0 : ρ (.func 33) = .func (.func 33) #[] #[] := hρ0
        have e1 : ρ (.tmp 14) = .slice A1 n1 c1 := hρ1
        have e2 : ρ (.tmp 19) = encStr nm := hρ2
        obtain ⟨hg1, hg2⟩ := hI.g
        clear hI hρ0 hρ1 hρ2
        go_simp
        refine (HT1.out W hg1 (hg2 rfl)).mono ?_
        rintro e W' ⟨v, rfl, hv, hg'⟩
        exact ⟨_, rfl, ⟨Nat.le_refl _, fun _ => hv⟩, trivial, hg', fun e => by cases e⟩
      repeat
        refine Vc.Walk.pure (v := ?_) (fun _ => Gr.rfl' _) rfl (by first | exact Vc.GuardYes.no rfl | exact Vc.GuardYes.yes rfl rfl) rfl rfl ?_ ?_
        rotate_left
        · intro _ W hI
          (have y0 := hI.g.1.cell x0; have y1 := hI.g.1.cell x1; clear hI)
          go_simp
          exact rfl
      refine Vc.Walk.any (.fits (Vc.At 2 (OwnBs w.heap.size B3))) (Vc.At.stable (fun u W W' hl hf => OwnBs.gr hl hf)) (.no rfl) ?_ ?_
      · intro ρ k W hI hf
        obtain rfl := hI.eq 1 rfl
        obtain ⟨hρ0, ⟨_, hf1⟩, hρ2, _⟩ := hf
        obtain ⟨A2, n2, c2, hρ1, hn2, ho2⟩ := hf1 (Nat.le_refl _)
        have e0 : ρ (.func 33) = .func (.func 33) #[] #[] := hρ0
        have e1 : ρ (.tmp 20) = .slice A2 n2 c2 := hρ1
        have e2 : ρ (.tmp 25) = encStr qb := hρ2
        obtain ⟨hg1, hg2⟩ := hI.g
        clear hI hρ0 hρ1 hρ2 hf1
        go_simp
        refine (HT2.out A2 n2 c2 W hg1 hn2 ho2).mono ?_
        rintro e W' ⟨v, rfl, hv, hg'⟩
        exact ⟨_, rfl, ⟨Nat.le_refl _, fun _ => hv⟩, trivial, hg', fun e => by cases e⟩
      refine Vc.Walk.any (.fits (Vc.At 2 (OwnBs w.heap.size B3))) (Vc.At.stable (fun u W W' hl hf => OwnBs.gr hl hf)) (.no rfl) ?_ ?_
      · intro ρ k W hI hf
        have hk := hI.lt 1 12 rfl (by kernel_rfl)
        have hk2 : k ≤ 2 := hI.top
        obtain rfl : k = 2 := by omega
        obtain ⟨⟨_, hf1⟩, _⟩ := hf
        obtain ⟨A2, n2, c2, hρ1, hn2, ho2⟩ := hf1 (Nat.le_refl _)
        have e1 : ρ (.tmp 26) = .slice A2 n2 c2 := hρ1
        have hh := Lib.hid (And.intro hn2 ho2)
        clear hI hρ1 hf1 hn2 ho2
        go_simp
        exact ⟨⟨Nat.le_refl _, fun _ => ⟨_, _, _, rfl, hh.out⟩⟩, Gr.rfl' _⟩
      rintro W ⟨hW, _⟩
      have hW : Gr w W := hW
      simp only [List.reverse_cons, List.reverse_nil, List.nil_append, List.cons_append, Vc.finish, Act.put, List.setIfInBounds_toArray, List.set_cons_zero, List.set_cons_succ]
      rintro u20 _ u26 _ u3 ⟨_, hv3⟩
      have HV3 := Lib.hid (show OwnBs w.heap.size (bytesTo n (l.take (j + 1))) u3 W from by rw [hsn.out]; exact hv3 (Nat.le_refl _))
      clear hv3
      go_wp2_with fail
      go_roundw
      case rel => exact ⟨j + 1, by omega, by go_num, HV3, hW⟩
      case measure => simp [intOf]; omega
    · obtain rfl : j = n := by omega
      obtain ⟨A1, n1, c1, rfl, hn1, ho1⟩ := hv.out
      rw [List.take_of_length_le (by omega)] at hn1 ho1
      clear hv hv1
      have hr1 := ho1.rd
      have hcv := run_str (P := Try.prog) hr1 29 9 5 n1 c1 hn1.out.symm Try.underlying29 Try.underlying5 Try.underlying9
      clear hr1 ho1
      go_wp2
      go_ret
      exact ⟨rfl, hg⟩
end Go.Proofs.Ytcfbkhgdlgnmgaa
set_option linter.unusedVariables false
set_option linter.unusedSimpArgs false
set_option maxRecDepth 100000
namespace Go.Proofs.Ytcfbkhgdlgnmgaa
open Go.RowKit
section
variable {X X' Xg Z Z2 : Nat → Prop} {w0 wg w2 w3 W W' : World} {p : Nat} {s s' v' : V} {e0 : Int} {A B : Option Addr} {rs ts : List FlR}
theorem Sz.rd (h : Sz w0 wg Xg W X p s) {bs : Str} (hr : Rd wg A (bs.map bv)) (hz : 0 < bs.length → ∀ ad, A = some ad → ¬ Xg ad.block) : Rd W A (bs.map bv) :=
  h.mv.tr.rd' hr (fun h0 => hz (by rwa [List.length_map] at h0))
def w7 (W : World) : World := W.alloc (.cells #[.int .u8 7] 5)
end
theorem Lv.sm {F : Files} {m : Nat} {v : V} (h : Lv F m v) (ho : v.ops ≤ 1000) : Sm v := ⟨by omega, by rw [h.stop]; omega⟩
end Go.Proofs.Ytcfbkhgdlgnmgaa
set_option linter.unusedVariables false
set_option linter.unusedSimpArgs false
set_option maxRecDepth 100000
namespace Go.Proofs.Ytcfbkhgdlgnmgaa.commitRoom
open Go.RowKit
attribute [local go_sem] Vc.known_tmp Vc.known_const Vc.known_func Vc.known_global Vc.lk Vc.okUpon Vc.Fact.holds
section
variable {X : Nat → Prop} {w0 W : World} {p : Nat} {s v' : V} {e0 : Int}
theorem sv_write (hS : Sv w0 W X p s) (hs : Sm s) (nm : Str) (hnm : nm.length ≤ maxLen) (A : Option Addr) (n c : Nat) (bs : Str) (hn : Hid (bs.length = n)) (hr : Rd w0 A (bs.map bv)) (hl : n ≤ 1000000) (he : s.write nm bs = (v', e0)) :
    Calls Try.prog 17 #[.pointer (some ⟨p, 0, none⟩), encStr nm, .slice A n c] W fun e W' => e = .returned (.int .i64 e0) ∧ ∃ X', Sv w0 W' X' p v' := by
  refine (write_any hS.at_ hs nm hnm A n c bs hn (hr.gr hS.gr) hl).mono ?_
  rintro e W' ⟨rfl, X', ha, hm⟩
  rw [he] at ha ⊢
  exact ⟨rfl, X', hS.step ha hm⟩
theorem sv_flush (hS : Sv w0 W X p s) (hs : Sm s) (he : s.flush = (v', e0)) :
    Calls Try.prog 18 #[.pointer (some ⟨p, 0, none⟩)] W fun e W' => e = .returned (.int .i64 e0) ∧ ∃ X', Sv w0 W' X' p v' := by
  refine (flush_any hS.at_ hs).mono ?_
  rintro e W' ⟨rfl, X', ha, hm⟩
  rw [he] at ha ⊢
  exact ⟨rfl, X', hS.step ha hm⟩
end
theorem byte_one (w : World) : Calls Try.prog 21 #[.slice none 0 0, .int .i64 0] w fun e w' => ∃ A c, e = .returned (.slice A 1 c) ∧ Gr w w' := by
  refine (Cd.xByte_any w.heap.size none 0 0 [] 0 w (Lib.hid rfl) (Own.nil _ _ _ _) (Nat.le_refl _) (by omega)).mono fun e w' h => ?_
  obtain ⟨v, rfl, ⟨A, n, c, rfl, hn, _⟩, hg⟩ := OwnBs.of h (Gr.rfl' _) (Own.nil _ _ _ _)
  obtain rfl := hn.out
  exact ⟨A, c, rfl, hg⟩
structure Two (W w8 : World) (A5 A6 : Option Addr) (k1 k2 c5 c6 : Nat) (gs hs : List FlR) (o n : List Fl) (J : Nat) : Prop where
  ho : gs.map FlR.fl = o
  hn : hs.map FlR.fl = n
  l1 : gs.length = k1
  l2 : hs.length = k2
  m1 : k1 ≤ 4
  m2 : k2 ≤ 4
  p2 : 1 ≤ k2
  d5 : k1 ≤ c5
  d6 : k2 ≤ c6
  f1 : FlS w8 (fun i => i < w8.heap.size) A5 gs
  f2 : FlS w8 (fun i => i < w8.heap.size) A6 hs
  g1 : Gd o
  g2 : Gd n
  b1 : ∀ f ∈ gs, f.q.n ≤ 60
  b2 : ∀ f ∈ hs, f.q.n ≤ 60
  j : (bytesM n).length = J
  gr : Gr W w8
section
variable {W w8 : World} {A5 A6 : Option Addr} {k1 k2 c5 c6 : Nat} {gs hs : List FlR} {o n : List Fl} {J : Nat}
theorem Two.ol (h : Two W w8 A5 A6 k1 k2 c5 c6 gs hs o n J) : o.length = k1 := by rw [← h.ho, List.length_map, h.l1]
theorem Two.nl (h : Two W w8 A5 A6 k1 k2 c5 c6 gs hs o n J) : n.length = k2 := by rw [← h.hn, List.length_map, h.l2]
theorem Two.jle (h : Two W w8 A5 A6 k1 k2 c5 c6 gs hs o n J) : J ≤ 700 := by have := h.g2.bytes; have := h.j; omega
theorem Two.jge (h : Two W w8 A5 A6 k1 k2 c5 c6 gs hs o n J) : 3 ≤ J := by have := bytesM_ge (l := n) (by rw [h.nl]; exact h.p2); have := h.j; omega
theorem Two.ule (h : Two W w8 A5 A6 k1 k2 c5 c6 gs hs o n J) (j : Nat) : Files.used (o.take j) ≤ 240 := Nat.le_trans (used_take_le o j) h.g1.used
theorem Two.gle (h : Two W w8 A5 A6 k1 k2 c5 c6 gs hs o n J) (j : Nat) : growF o (n.take j) ≤ 240 := (h.g2.take j).grow o
theorem Two.at1 (h : Two W w8 A5 A6 k1 k2 c5 c6 gs hs o n J) {j : Nat} (hj : j < k1) : ∃ (g off : Nat) (q : Rw), A5 = some ⟨g, off, none⟩ ∧ w8.cell? ⟨g, off + j * 2, none⟩ = some (encStr (nmA j)) ∧ w8.cell? ⟨g, off + j * 2 + 1, none⟩ = some (.slice q.A q.n q.c) ∧ q.Ok w8 ∧ q.n ≤ 60 ∧
    Files.used (o.take (j + 1)) = Files.used (o.take j) + q.n ∧ wasL o j = q.n ∧ ∃ h : j < o.length, o[j] = (nmA j, q.b) := by
  have hjl : j < gs.length := by rw [h.l1]; exact hj
  obtain ⟨g, off, e, x0, x1⟩ := h.f1.at_ hjl
  have hjo : j < o.length := by rw [h.ol]; exact hj
  have hm := List.getElem_mem hjl
  have e1 : o[j] = gs[j].fl := by simp [← h.ho]
  have e2 := h.g1.name hjo
  rw [e1] at e2
  have e2 : gs[j].nm = nmA j := e2
  have hq := (h.f1.ok _ hm).1
  have e3 : o[j].2.length = gs[j].q.n := by rw [e1]; exact hq.len.out
  rw [e2] at x0
  refine ⟨g, off, gs[j].q, e, x0, x1, hq, h.b1 _ hm, ?_, ?_, hjo, ?_⟩
  · rw [used_take o hjo, e3]
  · unfold wasL
    rw [dif_pos hjo, e3]
  · rw [e1, ← e2]
    rfl
theorem Two.at2 (h : Two W w8 A5 A6 k1 k2 c5 c6 gs hs o n J) {j : Nat} (hj : j < k2) : ∃ (g off : Nat) (q : Rw), A6 = some ⟨g, off, none⟩ ∧ w8.cell? ⟨g, off + j * 2 + 1, none⟩ = some (.slice q.A q.n q.c) ∧ q.n ≤ 60 ∧ growF o (n.take (j + 1)) = growF o (n.take j) + (q.n - wasL o j) := by
  have hjl : j < hs.length := by rw [h.l2]; exact hj
  obtain ⟨g, off, e, x0, x1⟩ := h.f2.at_ hjl
  have hjn : j < n.length := by rw [h.nl]; exact hj
  have hm := List.getElem_mem hjl
  have e1 : n[j] = hs[j].fl := by simp [← h.hn]
  have e3 : n[j].2.length = hs[j].q.n := by rw [e1]; exact (h.f2.ok _ hm).1.len.out
  refine ⟨g, off, hs[j].q, e, x1, h.b2 _ hm, ?_⟩
  rw [grow_take h.g1 h.g2 hjn, e3]
theorem wasL_out {o : List Fl} {j : Nat} (h : ¬ j < o.length) : wasL o j = 0 := by unfold wasL; rw [dif_neg h]
end
theorem nmA_len (m : Nat) : (nmA m).length ≤ maxLen := by
  unfold nmA strs4 maxLen
  rcases m with _ | _ | _ | _ | m <;> simp
set_option maxHeartbeats 8000000 in
theorem walk0 (W : World) (a0 : Option Addr) (n0 c0 : Nat) (x0 : List FlR) (hn0 : Hid (x0.length = n0)) (hf0 : FlS W (fun i => i < W.heap.size) a0 x0)
    (a1 : Option Addr) (n1 c1 : Nat) (x1 : List FlR) (hn1 : Hid (x1.length = n1)) (hf1 : FlS W (fun i => i < W.heap.size) a1 x1) (x2 : Int) (b1 : -9223372036854775808 ≤ x2) (b2 : x2 ≤ 9223372036854775807)
    (hfw : FewM x0) (hfw' : FewM x1) (h1 : n1 ≠ 0) (R : Nat) (hR : x2 % 3 = (R : Int)) (hR2 : R ≤ 2) (hR0 : R = 0) :
    Calls Try.prog 3 #[.slice a0 n0 c0, .slice a1 n1 c1, .int .i64 x2] W fun e W' => e = .returned (.bool true) ∧ Gr W W' := by
  have hn := hn0.out
  have hn' := hn1.out
  have hle : n0 ≤ 10 := by have := hfw.2; omega
  have hle' : n1 ≤ 10 := by have := hfw'.2; omega
  have HK := Lib.hid (known_any W)
  have HF := Lib.hid (fun W1 (hg : Gr W W1) => hn ▸ few_any (hf0.gr hg) c0 (by unfold maxLen; omega))
  have HF' := Lib.hid (fun W1 (hg : Gr W W1) => hn' ▸ few_any (hf1.gr hg) c1 (by unfold maxLen; omega))
  have hdt : decide (FewM x0) = true := decide_eq_true hfw
  have hdt' : decide (FewM x1) = true := decide_eq_true hfw'
  rw [hdt] at HF
  rw [hdt'] at HF'
  have HG := Lib.hid (fun W1 (hg : Gr W W1) => good_new ((hf0.gr hg).mono (fun i hi => Nat.lt_of_lt_of_le hi hg.size)) n0 c0 hn 4 (by omega) hle)
  have HG' := Lib.hid (fun W1 (hg : Gr W W1) => good_new ((hf1.gr hg).mono (fun i hi => Nat.lt_of_lt_of_le hi hg.size)) n1 c1 hn' 4 (by omega) hle')
  have HWi := Lib.hid (fun W => hR ▸ within1_any x2 3 W b1 b2 (by omega) (by omega))
  have h1'' : ((n1 : Int) == 0) = false := by simp; omega
  clear hn hf0 hn0 hn' hf1 hn1 hfw hfw' hdt hdt' hR b1 b2
  replace hR0 := Lib.hid hR0
  go_enter Try.func3, Try.ntmps3
  go_wp2_with (first
    | (go_at_call 10; refine HK.out.mono ?_; rintro e w1 ⟨rfl, hg1⟩; replace hg1 := Lib.hid hg1)
    | (go_at_call 11; refine (HF'.out _ hg2.out).mono ?_; rintro e w3 ⟨rfl, hw3⟩; subst hw3)
    | (go_at_call 11; refine (HF.out _ hg1.out).mono ?_; rintro e w2 ⟨rfl, hw2⟩; subst hw2; have hg2 := hg1)
    | (go_at_call 12; refine (HG'.out _ hg3.out).mono ?_; rintro e w4 ⟨A6, c6, hs, rfl, hgl, hc3, hf3, hgd, hgb, hg4⟩
       generalize hk : min n1 4 = k2 at *
       have hF4 := Lib.hid (And.intro hgl (And.intro hc3 (And.intro hf3 (And.intro hgd (And.intro hgb (show 1 ≤ k2 ∧ k2 ≤ 4 by omega))))))
       have hg34 := Lib.hid hg4
       have HO := of_any hf3 c6 (by omega)
       rw [hgl] at HO
       replace HO := Lib.hid HO
       have hb20 : ∀ f ∈ hs.map FlR.fl, f.1.length ≤ maxLen ∧ f.2.length ≤ maxLen := fun f hf => by
         have h1 := (strs4_ok _ (hgd.mem hf)).2.2.2
         have h2 := hgd.sm f hf
         unfold maxLen
         omega
       have HB := Lib.hid (fun W A c (hr : Rd W A ((hs.map FlR.fl).flatMap frC)) => (show (hs.map FlR.fl).length = k2 by rw [List.length_map, hgl]) ▸ rbytes_any hr c (by rw [List.length_map]; omega) hb20)
       clear hgl hc3 hf3 hgd hgb hk hg4 hb20)
    | (go_at_call 12; refine (HG.out _ hg1.out).mono ?_; rintro e w3 ⟨A5, c5, gs, rfl, hgl, hc3, hf3, hgd, hgb, hg3⟩
       generalize hk : min n0 4 = k1 at *
       have hF3 := Lib.hid (And.intro hgl (And.intro hc3 (And.intro hf3 (And.intro hgd (And.intro hgb (show k1 ≤ 4 by omega))))))
       replace hg3 := Lib.hid (hg1.out.trans' hg3)
       clear hgl hc3 hf3 hgd hgb hk)
    | (go_at_call 14; refine HO.out.mono ?_; rintro e w5 ⟨A7, c7, rfl, _, hr7, hg5⟩)
    | (go_at_call 13; refine (HB.out _ _ _ hr7).mono ?_; rintro e w8 ⟨rfl, hg8⟩
       obtain ⟨hgl, hc3, hf3, hgd, hgb, hk1⟩ := hF3.out
       obtain ⟨hgl', hc3', hf3', hgd', hgb', hk2⟩ := hF4.out
       have hg48 := hg5.trans' hg8
       have hg38 := hg34.out.trans' hg48
       obtain ⟨o, ho⟩ : ∃ o, gs.map FlR.fl = o := ⟨_, rfl⟩
       obtain ⟨n, hn⟩ : ∃ n, hs.map FlR.fl = n := ⟨_, rfl⟩
       obtain ⟨J, hJ⟩ : ∃ J, (bytesM n).length = J := ⟨_, rfl⟩
       have hlen : (bytesM (hs.map FlR.fl)).length = J := by rw [hn, hJ]
       have h2 := Lib.hid (Two.mk (W := W) (c5 := c5) (c6 := c6) ho hn hgl hgl' hk1 hk2.2 hk2.1 hc3 hc3' ((hf3.gr hg38).mono (fun i hi => Nat.lt_of_lt_of_le hi hg38.size)) ((hf3'.gr hg48).mono (fun i hi => Nat.lt_of_lt_of_le hi hg48.size)) (ho ▸ hgd) (hn ▸ hgd') hgb hgb' hJ (hg3.out.trans' hg38))
       have hJ1 := h2.out.jle
       have hJ2 := h2.out.jge
       clear hgl hc3 hf3 hgd hgb hk1 hgl' hc3' hf3' hgd' hgb' hk2 hg48 hg38 ho hn hJ hF3 hF4 hg3 hg34 hr7 hg5 hg8 HO HB))
  have hk1 := h2.out.m1
  have hk2 := h2.out.m2
  go_loopw [9, 10] (fun t i wr => ∃ j : Nat, j ≤ k1 ∧ i = .int .i64 j ∧ t = .int .i64 ((J + Files.used (o.take j) : Nat) : Int) ∧ wr = w8) (fun _ i _ => k1 - (intOf i).toNat)
  case atStart => exact ⟨0, Nat.zero_le _, rfl, by first | (simp [Files.used]; done) | (rw [← hlen]; simp [Files.used]), rfl⟩
  case round =>
    obtain ⟨j, hj, rfl, ht, hw⟩ := hrel
    replace hw := hw.symm
    subst hw
    by_cases hlt : j < k1
    · obtain ⟨g, off, q, rfl, x0, x1, hq, hq60, hu, _, _⟩ := h2.out.at1 hlt
      have hule := h2.out.ule j
      obtain ⟨u, hu0⟩ : ∃ u, u = Files.used (o.take j) := ⟨_, rfl⟩
      rw [← hu0] at hu ht hule
      replace hu := Lib.hid hu
      clear hu0 hq x0
      generalize q.n = qn at *
      generalize q.A = qA at *
      generalize q.c = qc at *
      subst ht
      go_wp2_with fail
      go_roundw
      case rel => exact ⟨j + 1, by omega, by go_num, by rw [hu.out]; first | (congr 1; omega) | (unfold wrap64; congr 1; omega), by first | rfl | trivial⟩
      case measure => simp [intOf]; omega
    · obtain rfl : j = k1 := by omega
      rw [List.take_of_length_le (Nat.le_of_eq h2.out.ol)] at ht
      obtain ⟨U, hU⟩ : ∃ U, U = Files.used o := ⟨_, rfl⟩
      rw [← hU] at ht
      have hUl : U ≤ 240 := by rw [hU]; exact h2.out.g1.used
      replace hU := Lib.hid hU
      subst ht
      go_wp2_with fail
      go_loopw [9, 11] (fun t i wr => ∃ j : Nat, j ≤ k2 ∧ i = .int .i64 j ∧ t = .int .i64 ((J + U + growF o (n.take j) : Nat) : Int) ∧ wr = w8) (fun _ i _ => k2 - (intOf i).toNat)
      case atStart => exact ⟨0, Nat.zero_le _, rfl, by simp [growF], rfl⟩
      case round =>
        obtain ⟨i, hi, rfl, ht, hw⟩ := hrel
        replace hw := hw.symm
        subst hw
        by_cases hlt2 : i < k2
        · obtain ⟨g, off, q, rfl, x1, hq60, hgw⟩ := h2.out.at2 hlt2
          have hgle := h2.out.gle i
          obtain ⟨t0, ht0⟩ : ∃ t0, t0 = growF o (n.take i) := ⟨_, rfl⟩
          rw [← ht0] at hgw ht hgle
          generalize q.n = qn at *
          generalize q.A = qA at *
          generalize q.c = qc at *
          subst ht
          by_cases hio : i < j
          · obtain ⟨g', off', q', rfl, _, x1', _, hq60', _, hwas, _⟩ := h2.out.at1 hio
            rw [hwas] at hgw
            replace hgw := Lib.hid hgw
            clear hwas ht0
            generalize q'.n = qn' at *
            generalize q'.A = qA' at *
            generalize q'.c = qc' at *
            go_wp2_with fail
            go_roundw
            case rel => exact ⟨i + 1, by omega, by go_num, by rw [hgw.out]; first | (congr 1; omega) | (unfold wrap64; congr 1; omega), by first | rfl | trivial⟩
            case measure => simp [intOf]; omega
          · rw [wasL_out (by rw [h2.out.ol]; exact hio)] at hgw
            replace hgw := Lib.hid hgw
            clear ht0
            go_wp2_with fail
            go_roundw
            case rel => exact ⟨i + 1, by omega, by go_num, by rw [hgw.out]; first | (congr 1; omega) | (unfold wrap64; congr 1; omega), by first | rfl | trivial⟩
            case measure => simp [intOf]; omega
        · obtain rfl : i = k2 := by omega
          rw [List.take_of_length_le (Nat.le_of_eq h2.out.nl)] at ht
          obtain ⟨N, hN⟩ : ∃ N, N = needB o n := ⟨_, rfl⟩
          have hN1 : J + U + growF o n = N := by rw [hN, ← h2.out.j, hU.out]; rfl
          have hN2 : N ≤ 1500 := by rw [hN]; exact needB_le h2.out.g1 h2.out.g2
          have hN3 : 3 ≤ N := by omega
          have hN4 := Lib.hid (show Files.used o + 3 ≤ N from by rw [← hU.out]; omega)
          rw [hN1] at ht
          replace hN := Lib.hid hN
          clear hN1 hU hUl hlt hlt2
          subst ht
          have hsub : Hid (roomOf ((N : Int) - (R : Int)) = N - R) := Lib.hid (by unfold roomOf mostRoom; omega)
          go_wp2_with (first
            | (go_at_call 15; (with_reducible refine (HWi.out _).mono ?_); rintro e w9 ⟨rfl, hw9⟩; subst hw9)
            | (go_at_call 16; refine (sv_new ((N : Int) - (R : Int)) _).mono ?_; rintro e w10 ⟨p, X10, rfl, hS10⟩
               have hl10 := lv_new ((N : Int) - (R : Int))
               rw [hsub.out] at hl10
               have hL := Lib.hid (show ∃ X v, Sv w8 w10 X p v ∧ Lv (o.take 0) (N - R) v ∧ v.ops = 0 from ⟨X10, _, hS10, hl10, rfl⟩)
               clear hS10 hl10))
          go_loopw [14] (fun i wr => ∃ j' : Nat, j' ≤ j ∧ i = .int .i64 j' ∧ Hid (∃ X v, Sv w8 wr X p v ∧ Lv (o.take j') (N - R) v ∧ v.ops = j')) (fun i _ => j - (intOf i).toNat)
          case atStart => exact ⟨0, Nat.zero_le _, rfl, hL⟩
          case round =>
            clear hL
            obtain ⟨m, hm, rfl, hL⟩ := hrel
            by_cases hlt : m < j
            · obtain ⟨X, v, hS, hlv, hops⟩ := hL.out
              obtain ⟨g, off, q, rfl, x0, x1, hq, hq60, _, _, hmo, hom⟩ := h2.out.at1 hlt
              obtain ⟨v', hv', hlv', hops'⟩ := room_write h2.out.g1 hmo hlv (by have := hN4.out; omega)
              rw [hom] at hv'
              have x0 := hS.gr.cell x0
              have x1 := hS.gr.cell x1
              have HW := Lib.hid (fun W' (hg : Gr wr W') => sv_write (hS.more hg) (hlv.sm (by omega)) (nmA m) (nmA_len m) q.A q.n q.c q.b hq.len hq.rd (by omega) hv')
              have hl' := Lib.hid (And.intro hlv' (show v'.ops = m + 1 by omega))
              clear hv' hlv' hops' hlv hops hS hL hom hq
              generalize q.n = qn at *
              generalize q.A = qA at *
              generalize q.c = qc at *
              generalize nmA m = nm at *
              go_wp2_with fail
              refine Vc.wp_region_split ⟨Gr, fun _ => Gr, fun _ W => Gr wr W, []⟩ 11 [] (by kernel_rfl) (by kernel_rfl) (by kernel_rfl) (by decide) (by simp) (by simp) (by simp) (fun _ _ h => h.size) (fun _ _ _ h => h.size) (fun _ _ _ h h' => h'.trans' h) (Gr.draw _) ?_
              repeat
                refine Vc.Walk.pure (v := ?_) (fun _ => Gr.rfl' _) rfl (by first | exact Vc.GuardYes.no rfl | exact Vc.GuardYes.yes rfl rfl) rfl rfl ?_ ?_
                rotate_left
                · intro _ W hI
                  (have y0 := hI.g.cell x0; have y1 := hI.g.cell x1; clear hI)
                  go_simp
                  exact rfl
              intro W' hW
              have hW : Gr wr W' := hW
              simp only [List.reverse_cons, List.reverse_nil, List.nil_append, List.cons_append, Vc.finish, Act.put, List.setIfInBounds_toArray, List.set_cons_zero, List.set_cons_succ]
              intro _
              simp only [List.drop_succ_cons, List.drop_zero]
              clear x0 x1
              go_wp2_with (go_at_call 17; refine (HW.out _ hW).mono ?_; rintro e w11 ⟨rfl, X11, hS11⟩; replace hS11 := Lib.hid hS11)
              go_roundw
              case rel => exact ⟨m + 1, by omega, by go_num, Lib.hid ⟨_, _, hS11.out, hl'.out⟩⟩
              case measure => simp [intOf]; omega
            · obtain rfl : m = j := by omega
              obtain ⟨X, v, hS, hlv, hops⟩ := hL.out
              rw [List.take_of_length_le (Nat.le_of_eq h2.out.ol)] at hlv
              obtain ⟨v2, e2, q2, s2, r2, o2⟩ := lv_flush hlv
              have HFl := Lib.hid (sv_flush hS (hlv.sm (by omega)) e2)
              have hol := h2.out.ol
              have hnl := h2.out.nl
              have hp2 := h2.out.p2
              have hRz := hR0.out
              have hRi : ¬ (0 : Int) < (R : Int) := by omega
              obtain ⟨v3, e3, q3, o3⟩ := room_commit q2 h2.out.g1 h2.out.g2 (by omega) s2 (by rw [r2, ← hN.out]; omega)
              have hst : v3.stop ≤ v2.stop := by have := (commitM_ops v2 n).2; rw [e3] at this; exact this
              rw [← h2.out.hn] at e3
              have e3' := e3
              have HC := Lib.hid (fun W X (hS : Sv w8 W X p v2) => sv_commit hS ⟨by omega, by omega⟩ h2.out.f2 i c6 h2.out.l2 (by omega) h2.out.d6 (fun f hf => by have := h2.out.b2 f hf; omega) e3')
              have HI := Lib.hid (fun W X (hS : Sv w8 W X p v3) => sv_is_true hS ⟨by omega, by omega⟩ q3.live h2.out.f1 h2.out.f2 m i c5 c6 h2.out.l1 h2.out.l2 (by omega) (by omega) (by rw [q3.now, h2.out.ho, h2.out.hn]; exact isM_both h2.out.g1 h2.out.g2))
              have HBy := Lib.hid byte_one
              clear hlv hops e2 q2 s2 r2 o2 hS hL e3 e3' q3 o3 hst hol hnl hp2 hRz
              go_wp2_with (first
                | (go_at_call 18; refine HFl.out.mono ?_; rintro e w12 ⟨rfl, X12, hS12⟩; replace hS12 := Lib.hid hS12)
                | (go_at_call 19; refine (HC.out _ _ hS12.out).mono ?_; rintro e w13 ⟨rfl, X13, hS13⟩; replace hS13 := Lib.hid hS13)
                | (go_at_call 20; refine (HI.out _ _ hS13.out).mono ?_; rintro e w14 ⟨rfl, hS14⟩; replace hS14 := Lib.hid hS14)
                | (go_at_call 21; refine (HBy.out _).mono ?_; rintro e w15 ⟨A15, c15, rfl, hg15⟩))
              go_ret
              exact ⟨rfl, (h2.out.gr.trans' hS14.out.gr).trans' hg15⟩
set_option maxHeartbeats 8000000 in
theorem walk1 (W : World) (a0 : Option Addr) (n0 c0 : Nat) (x0 : List FlR) (hn0 : Hid (x0.length = n0)) (hf0 : FlS W (fun i => i < W.heap.size) a0 x0)
    (a1 : Option Addr) (n1 c1 : Nat) (x1 : List FlR) (hn1 : Hid (x1.length = n1)) (hf1 : FlS W (fun i => i < W.heap.size) a1 x1) (x2 : Int) (b1 : -9223372036854775808 ≤ x2) (b2 : x2 ≤ 9223372036854775807)
    (hfw : FewM x0) (hfw' : FewM x1) (h1 : n1 ≠ 0) (R : Nat) (hR : x2 % 3 = (R : Int)) (hR2 : R ≤ 2) (hR0 : 0 < R) :
    Calls Try.prog 3 #[.slice a0 n0 c0, .slice a1 n1 c1, .int .i64 x2] W fun e W' => e = .returned (.bool true) ∧ Gr W W' := by
  have hn := hn0.out
  have hn' := hn1.out
  have hle : n0 ≤ 10 := by have := hfw.2; omega
  have hle' : n1 ≤ 10 := by have := hfw'.2; omega
  have HK := Lib.hid (known_any W)
  have HF := Lib.hid (fun W1 (hg : Gr W W1) => hn ▸ few_any (hf0.gr hg) c0 (by unfold maxLen; omega))
  have HF' := Lib.hid (fun W1 (hg : Gr W W1) => hn' ▸ few_any (hf1.gr hg) c1 (by unfold maxLen; omega))
  have hdt : decide (FewM x0) = true := decide_eq_true hfw
  have hdt' : decide (FewM x1) = true := decide_eq_true hfw'
  rw [hdt] at HF
  rw [hdt'] at HF'
  have HG := Lib.hid (fun W1 (hg : Gr W W1) => good_new ((hf0.gr hg).mono (fun i hi => Nat.lt_of_lt_of_le hi hg.size)) n0 c0 hn 4 (by omega) hle)
  have HG' := Lib.hid (fun W1 (hg : Gr W W1) => good_new ((hf1.gr hg).mono (fun i hi => Nat.lt_of_lt_of_le hi hg.size)) n1 c1 hn' 4 (by omega) hle')
  have HWi := Lib.hid (fun W => hR ▸ within1_any x2 3 W b1 b2 (by omega) (by omega))
  have h1'' : ((n1 : Int) == 0) = false := by simp; omega
  clear hn hf0 hn0 hn' hf1 hn1 hfw hfw' hdt hdt' hR b1 b2
  have hRi : 0 < (R : Int) := by omega
  go_enter Try.func3, Try.ntmps3
  go_wp2_with (first
    | (go_at_call 10; refine HK.out.mono ?_; rintro e w1 ⟨rfl, hg1⟩; replace hg1 := Lib.hid hg1)
    | (go_at_call 11; refine (HF'.out _ hg2.out).mono ?_; rintro e w3 ⟨rfl, hw3⟩; subst hw3)
    | (go_at_call 11; refine (HF.out _ hg1.out).mono ?_; rintro e w2 ⟨rfl, hw2⟩; subst hw2; have hg2 := hg1)
    | (go_at_call 12; refine (HG'.out _ hg3.out).mono ?_; rintro e w4 ⟨A6, c6, hs, rfl, hgl, hc3, hf3, hgd, hgb, hg4⟩
       generalize hk : min n1 4 = k2 at *
       have hF4 := Lib.hid (And.intro hgl (And.intro hc3 (And.intro hf3 (And.intro hgd (And.intro hgb (show 1 ≤ k2 ∧ k2 ≤ 4 by omega))))))
       have hg34 := Lib.hid hg4
       have HO := of_any hf3 c6 (by omega)
       rw [hgl] at HO
       replace HO := Lib.hid HO
       have hb20 : ∀ f ∈ hs.map FlR.fl, f.1.length ≤ maxLen ∧ f.2.length ≤ maxLen := fun f hf => by
         have h1 := (strs4_ok _ (hgd.mem hf)).2.2.2
         have h2 := hgd.sm f hf
         unfold maxLen
         omega
       have HB := Lib.hid (fun W A c (hr : Rd W A ((hs.map FlR.fl).flatMap frC)) => (show (hs.map FlR.fl).length = k2 by rw [List.length_map, hgl]) ▸ rbytes_any hr c (by rw [List.length_map]; omega) hb20)
       clear hgl hc3 hf3 hgd hgb hk hg4 hb20)
    | (go_at_call 12; refine (HG.out _ hg1.out).mono ?_; rintro e w3 ⟨A5, c5, gs, rfl, hgl, hc3, hf3, hgd, hgb, hg3⟩
       generalize hk : min n0 4 = k1 at *
       have hF3 := Lib.hid (And.intro hgl (And.intro hc3 (And.intro hf3 (And.intro hgd (And.intro hgb (show k1 ≤ 4 by omega))))))
       replace hg3 := Lib.hid (hg1.out.trans' hg3)
       clear hgl hc3 hf3 hgd hgb hk)
    | (go_at_call 14; refine HO.out.mono ?_; rintro e w5 ⟨A7, c7, rfl, _, hr7, hg5⟩)
    | (go_at_call 13; refine (HB.out _ _ _ hr7).mono ?_; rintro e w8 ⟨rfl, hg8⟩
       obtain ⟨hgl, hc3, hf3, hgd, hgb, hk1⟩ := hF3.out
       obtain ⟨hgl', hc3', hf3', hgd', hgb', hk2⟩ := hF4.out
       have hg48 := hg5.trans' hg8
       have hg38 := hg34.out.trans' hg48
       obtain ⟨o, ho⟩ : ∃ o, gs.map FlR.fl = o := ⟨_, rfl⟩
       obtain ⟨n, hn⟩ : ∃ n, hs.map FlR.fl = n := ⟨_, rfl⟩
       obtain ⟨J, hJ⟩ : ∃ J, (bytesM n).length = J := ⟨_, rfl⟩
       have hlen : (bytesM (hs.map FlR.fl)).length = J := by rw [hn, hJ]
       have h2 := Lib.hid (Two.mk (W := W) (c5 := c5) (c6 := c6) ho hn hgl hgl' hk1 hk2.2 hk2.1 hc3 hc3' ((hf3.gr hg38).mono (fun i hi => Nat.lt_of_lt_of_le hi hg38.size)) ((hf3'.gr hg48).mono (fun i hi => Nat.lt_of_lt_of_le hi hg48.size)) (ho ▸ hgd) (hn ▸ hgd') hgb hgb' hJ (hg3.out.trans' hg38))
       have hJ1 := h2.out.jle
       have hJ2 := h2.out.jge
       clear hgl hc3 hf3 hgd hgb hk1 hgl' hc3' hf3' hgd' hgb' hk2 hg48 hg38 ho hn hJ hF3 hF4 hg3 hg34 hr7 hg5 hg8 HO HB))
  have hk1 := h2.out.m1
  have hk2 := h2.out.m2
  go_loopw [9, 10] (fun t i wr => ∃ j : Nat, j ≤ k1 ∧ i = .int .i64 j ∧ t = .int .i64 ((J + Files.used (o.take j) : Nat) : Int) ∧ wr = w8) (fun _ i _ => k1 - (intOf i).toNat)
  case atStart => exact ⟨0, Nat.zero_le _, rfl, by first | (simp [Files.used]; done) | (rw [← hlen]; simp [Files.used]), rfl⟩
  case round =>
    obtain ⟨j, hj, rfl, ht, hw⟩ := hrel
    replace hw := hw.symm
    subst hw
    by_cases hlt : j < k1
    · obtain ⟨g, off, q, rfl, x0, x1, hq, hq60, hu, _, _⟩ := h2.out.at1 hlt
      have hule := h2.out.ule j
      obtain ⟨u, hu0⟩ : ∃ u, u = Files.used (o.take j) := ⟨_, rfl⟩
      rw [← hu0] at hu ht hule
      replace hu := Lib.hid hu
      clear hu0 hq x0
      generalize q.n = qn at *
      generalize q.A = qA at *
      generalize q.c = qc at *
      subst ht
      go_wp2_with fail
      go_roundw
      case rel => exact ⟨j + 1, by omega, by go_num, by rw [hu.out]; first | (congr 1; omega) | (unfold wrap64; congr 1; omega), by first | rfl | trivial⟩
      case measure => simp [intOf]; omega
    · obtain rfl : j = k1 := by omega
      rw [List.take_of_length_le (Nat.le_of_eq h2.out.ol)] at ht
      obtain ⟨U, hU⟩ : ∃ U, U = Files.used o := ⟨_, rfl⟩
      rw [← hU] at ht
      have hUl : U ≤ 240 := by rw [hU]; exact h2.out.g1.used
      replace hU := Lib.hid hU
      subst ht
      go_wp2_with fail
      go_loopw [9, 11] (fun t i wr => ∃ j : Nat, j ≤ k2 ∧ i = .int .i64 j ∧ t = .int .i64 ((J + U + growF o (n.take j) : Nat) : Int) ∧ wr = w8) (fun _ i _ => k2 - (intOf i).toNat)
      case atStart => exact ⟨0, Nat.zero_le _, rfl, by simp [growF], rfl⟩
      case round =>
        obtain ⟨i, hi, rfl, ht, hw⟩ := hrel
        replace hw := hw.symm
        subst hw
        by_cases hlt2 : i < k2
        · obtain ⟨g, off, q, rfl, x1, hq60, hgw⟩ := h2.out.at2 hlt2
          have hgle := h2.out.gle i
          obtain ⟨t0, ht0⟩ : ∃ t0, t0 = growF o (n.take i) := ⟨_, rfl⟩
          rw [← ht0] at hgw ht hgle
          generalize q.n = qn at *
          generalize q.A = qA at *
          generalize q.c = qc at *
          subst ht
          by_cases hio : i < j
          · obtain ⟨g', off', q', rfl, _, x1', _, hq60', _, hwas, _⟩ := h2.out.at1 hio
            rw [hwas] at hgw
            replace hgw := Lib.hid hgw
            clear hwas ht0
            generalize q'.n = qn' at *
            generalize q'.A = qA' at *
            generalize q'.c = qc' at *
            go_wp2_with fail
            go_roundw
            case rel => exact ⟨i + 1, by omega, by go_num, by rw [hgw.out]; first | (congr 1; omega) | (unfold wrap64; congr 1; omega), by first | rfl | trivial⟩
            case measure => simp [intOf]; omega
          · rw [wasL_out (by rw [h2.out.ol]; exact hio)] at hgw
            replace hgw := Lib.hid hgw
            clear ht0
            go_wp2_with fail
            go_roundw
            case rel => exact ⟨i + 1, by omega, by go_num, by rw [hgw.out]; first | (congr 1; omega) | (unfold wrap64; congr 1; omega), by first | rfl | trivial⟩
            case measure => simp [intOf]; omega
        · obtain rfl : i = k2 := by omega
          rw [List.take_of_length_le (Nat.le_of_eq h2.out.nl)] at ht
          obtain ⟨N, hN⟩ : ∃ N, N = needB o n := ⟨_, rfl⟩
          have hN1 : J + U + growF o n = N := by rw [hN, ← h2.out.j, hU.out]; rfl
          have hN2 : N ≤ 1500 := by rw [hN]; exact needB_le h2.out.g1 h2.out.g2
          have hN3 : 3 ≤ N := by omega
          have hN4 := Lib.hid (show Files.used o + 3 ≤ N from by rw [← hU.out]; omega)
          rw [hN1] at ht
          replace hN := Lib.hid hN
          clear hN1 hU hUl hlt hlt2
          subst ht
          have hsub : Hid (roomOf ((N : Int) - (R : Int)) = N - R) := Lib.hid (by unfold roomOf mostRoom; omega)
          go_wp2_with (first
            | (go_at_call 15; (with_reducible refine (HWi.out _).mono ?_); rintro e w9 ⟨rfl, hw9⟩; subst hw9)
            | (go_at_call 16; refine (sv_new ((N : Int) - (R : Int)) _).mono ?_; rintro e w10 ⟨p, X10, rfl, hS10⟩
               have hl10 := lv_new ((N : Int) - (R : Int))
               rw [hsub.out] at hl10
               have hL := Lib.hid (show ∃ X v, Sv w8 w10 X p v ∧ Lv (o.take 0) (N - R) v ∧ v.ops = 0 from ⟨X10, _, hS10, hl10, rfl⟩)
               clear hS10 hl10))
          go_loopw [14] (fun i wr => ∃ j' : Nat, j' ≤ j ∧ i = .int .i64 j' ∧ Hid (∃ X v, Sv w8 wr X p v ∧ Lv (o.take j') (N - R) v ∧ v.ops = j')) (fun i _ => j - (intOf i).toNat)
          case atStart => exact ⟨0, Nat.zero_le _, rfl, hL⟩
          case round =>
            clear hL
            obtain ⟨m, hm, rfl, hL⟩ := hrel
            by_cases hlt : m < j
            · obtain ⟨X, v, hS, hlv, hops⟩ := hL.out
              obtain ⟨g, off, q, rfl, x0, x1, hq, hq60, _, _, hmo, hom⟩ := h2.out.at1 hlt
              obtain ⟨v', hv', hlv', hops'⟩ := room_write h2.out.g1 hmo hlv (by have := hN4.out; omega)
              rw [hom] at hv'
              have x0 := hS.gr.cell x0
              have x1 := hS.gr.cell x1
              have HW := Lib.hid (fun W' (hg : Gr wr W') => sv_write (hS.more hg) (hlv.sm (by omega)) (nmA m) (nmA_len m) q.A q.n q.c q.b hq.len hq.rd (by omega) hv')
              have hl' := Lib.hid (And.intro hlv' (show v'.ops = m + 1 by omega))
              clear hv' hlv' hops' hlv hops hS hL hom hq
              generalize q.n = qn at *
              generalize q.A = qA at *
              generalize q.c = qc at *
              generalize nmA m = nm at *
              go_wp2_with fail
              refine Vc.wp_region_split ⟨Gr, fun _ => Gr, fun _ W => Gr wr W, []⟩ 11 [] (by kernel_rfl) (by kernel_rfl) (by kernel_rfl) (by decide) (by simp) (by simp) (by simp) (fun _ _ h => h.size) (fun _ _ _ h => h.size) (fun _ _ _ h h' => h'.trans' h) (Gr.draw _) ?_
              repeat
                refine Vc.Walk.pure (v := ?_) (fun _ => Gr.rfl' _) rfl (by first | exact Vc.GuardYes.no rfl | exact Vc.GuardYes.yes rfl rfl) rfl rfl ?_ ?_
                rotate_left
                · intro _ W hI
                  (have y0 := hI.g.cell x0; have y1 := hI.g.cell x1; clear hI)
                  go_simp
                  exact rfl
              intro W' hW
              have hW : Gr wr W' := hW
              simp only [List.reverse_cons, List.reverse_nil, List.nil_append, List.cons_append, Vc.finish, Act.put, List.setIfInBounds_toArray, List.set_cons_zero, List.set_cons_succ]
              intro _
              simp only [List.drop_succ_cons, List.drop_zero]
              clear x0 x1
              go_wp2_with (go_at_call 17; refine (HW.out _ hW).mono ?_; rintro e w11 ⟨rfl, X11, hS11⟩; replace hS11 := Lib.hid hS11)
              go_roundw
              case rel => exact ⟨m + 1, by omega, by go_num, Lib.hid ⟨_, _, hS11.out, hl'.out⟩⟩
              case measure => simp [intOf]; omega
            · obtain rfl : m = j := by omega
              obtain ⟨X, v, hS, hlv, hops⟩ := hL.out
              rw [List.take_of_length_le (Nat.le_of_eq h2.out.ol)] at hlv
              obtain ⟨v2, e2, q2, s2, r2, o2⟩ := lv_flush hlv
              have HFl := Lib.hid (sv_flush hS (hlv.sm (by omega)) e2)
              have hol := h2.out.ol
              have hnl := h2.out.nl
              have hp2 := h2.out.p2
              have e3 := room_full q2 h2.out.g2 (by omega) (by rw [r2, ← hN.out]; omega)
              rw [← h2.out.hn] at e3
              have e3' := e3
              have HC := Lib.hid (fun W X (hS : Sv w8 W X p v2) => sv_commit hS ⟨by omega, by omega⟩ h2.out.f2 i c6 h2.out.l2 (by omega) h2.out.d6 (fun f hf => by have := h2.out.b2 f hf; omega) e3')
              have HI := Lib.hid (fun W X (hS : Sv w8 W X p v2) => sv_is_true (B := none) (ts := []) hS ⟨by omega, by omega⟩ q2.live h2.out.f1 (FlS.nil _ _ _) m 0 c5 0 h2.out.l1 rfl (by omega) (by omega) (by rw [q2.now, h2.out.ho]; have := isM_both h2.out.g1 Gd.nil; rwa [bothF_nil] at this))
              clear hlv hops e2 q2 s2 r2 o2 hS hL e3 e3' hol hnl hp2
              go_wp2_with (first
                | (go_at_call 18; refine HFl.out.mono ?_; rintro e w12 ⟨rfl, X12, hS12⟩; replace hS12 := Lib.hid hS12)
                | (go_at_call 19; refine (HC.out _ _ hS12.out).mono ?_; rintro e w13 ⟨rfl, X13, hS13⟩; replace hS13 := Lib.hid hS13)
                | (go_at_call 20; refine (HI.out _ _ hS13.out).mono ?_; rintro e w14 ⟨rfl, hS14⟩; replace hS14 := Lib.hid hS14))
              go_ret
              exact ⟨rfl, h2.out.gr.trans' hS14.out.gr⟩
set_option maxHeartbeats 4000000 in
theorem walk (W : World) (a0 : Option Addr) (n0 c0 : Nat) (x0 : List FlR) (hn0 : Hid (x0.length = n0)) (hf0 : FlS W (fun i => i < W.heap.size) a0 x0) (hl0 : n0 ≤ c0) (hc0 : c0 ≤ maxLen)
    (a1 : Option Addr) (n1 c1 : Nat) (x1 : List FlR) (hn1 : Hid (x1.length = n1)) (hf1 : FlS W (fun i => i < W.heap.size) a1 x1) (hl1 : n1 ≤ c1) (hc1 : c1 ≤ maxLen) (x2 : Int) (b1 : -9223372036854775808 ≤ x2) (b2 : x2 ≤ 9223372036854775807) :
    Calls Try.prog 3 #[.slice a0 n0 c0, .slice a1 n1 c1, .int .i64 x2] W fun e W' => e = .returned (.bool true) ∧ Gr W W' := by
  have hm := Int.emod_nonneg x2 (show (3 : Int) ≠ 0 by omega)
  have hm2 := Int.emod_lt_of_pos x2 (show (0 : Int) < 3 by omega)
  by_cases hfw : FewM x0
  · by_cases hfw' : FewM x1
    · by_cases h1 : n1 = 0
      · have hn := hn0.out
        have hn' := hn1.out
        have HK := Lib.hid (known_any W)
        have HF := Lib.hid (fun W1 (hg : Gr W W1) => hn ▸ few_any (hf0.gr hg) c0 (by have := hfw.2; unfold maxLen; omega))
        have HF' := Lib.hid (fun W1 (hg : Gr W W1) => hn' ▸ few_any (hf1.gr hg) c1 (by have := hfw'.2; unfold maxLen; omega))
        have hdt : decide (FewM x0) = true := decide_eq_true hfw
        have hdt' : decide (FewM x1) = true := decide_eq_true hfw'
        rw [hdt] at HF
        rw [hdt'] at HF'
        clear hn hf0 hn0 hn' hf1 hn1 hfw hfw' hdt hdt'
        subst h1
        go_enter Try.func3, Try.ntmps3
        go_wp2_with (first
          | (go_at_call 10; refine HK.out.mono ?_; rintro e w1 ⟨rfl, hg1⟩; replace hg1 := Lib.hid hg1)
          | (go_at_call 11; refine (HF'.out _ hg2.out).mono ?_; rintro e w3 ⟨rfl, hw3⟩; subst hw3)
          | (go_at_call 11; refine (HF.out _ hg1.out).mono ?_; rintro e w2 ⟨rfl, hw2⟩; subst hw2; have hg2 := hg1))
        go_ret
        exact ⟨rfl, hg1.out⟩
      · by_cases h0 : x2 % 3 = 0
        · exact walk0 W a0 n0 c0 x0 hn0 hf0 a1 n1 c1 x1 hn1 hf1 x2 b1 b2 hfw hfw' h1 0 h0 (by omega) rfl
        · exact walk1 W a0 n0 c0 x0 hn0 hf0 a1 n1 c1 x1 hn1 hf1 x2 b1 b2 hfw hfw' h1 (x2 % 3).toNat (by omega) (by omega) (by omega)
    · have hn := hn0.out
      have hn' := hn1.out
      have HK := Lib.hid (known_any W)
      have HF := Lib.hid (fun W1 (hg : Gr W W1) => hn ▸ few_any (hf0.gr hg) c0 (by have := hfw.2; unfold maxLen; omega))
      have HF' := Lib.hid (fun W1 (hg : Gr W W1) => hn' ▸ few_any (hf1.gr hg) c1 (by omega))
      have hdt : decide (FewM x0) = true := decide_eq_true hfw
      have hdt' : decide (FewM x1) = false := decide_eq_false hfw'
      rw [hdt] at HF
      rw [hdt'] at HF'
      clear hn hf0 hn0 hn' hf1 hn1 hfw hfw' hdt hdt'
      go_enter Try.func3, Try.ntmps3
      go_wp2_with (first
        | (go_at_call 10; refine HK.out.mono ?_; rintro e w1 ⟨rfl, hg1⟩; replace hg1 := Lib.hid hg1)
        | (go_at_call 11; refine (HF'.out _ hg2.out).mono ?_; rintro e w3 ⟨rfl, hw3⟩; subst hw3)
        | (go_at_call 11; refine (HF.out _ hg1.out).mono ?_; rintro e w2 ⟨rfl, hw2⟩; subst hw2; have hg2 := hg1))
      go_ret
      exact ⟨rfl, hg1.out⟩
  · have hn := hn0.out
    have HK := Lib.hid (known_any W)
    have HF := Lib.hid (fun W1 (hg : Gr W W1) => hn ▸ few_any (hf0.gr hg) c0 (by omega))
    have hdt : decide (FewM x0) = false := decide_eq_false hfw
    rw [hdt] at HF
    clear hn hf0 hn0 hf1 hn1 hfw hdt
    go_enter Try.func3, Try.ntmps3
    go_wp2_with (first
      | (go_at_call 10; refine HK.out.mono ?_; rintro e w1 ⟨rfl, hg1⟩)
      | (go_at_call 11; refine (HF.out _ hg1).mono ?_; rintro e w2 ⟨rfl, hw2⟩; subst hw2))
    go_ret
    exact ⟨rfl, hg1⟩
end Go.Proofs.Ytcfbkhgdlgnmgaa.commitRoom
set_option linter.unusedVariables false
set_option linter.unusedSimpArgs false
namespace Go.Proofs.Ytcfbkhgdlgnmgaa.commitRoom
open Go.ChangeShapes Go.WideShapes Go.ChangeAt Go.RowKit
open Go.ChangeMaps (open_string shut_string)
theorem own : ownKnob Try.prog.godebug = none := by kernel_rfl
theorem laidOut : laidOutB Try.prog = true := by kernel_rfl
set_option maxRecDepth 100000 in
theorem lifted (os : Os) (started : os.Started) (H : Type) (enc : TypeId × Value → H) :
    ReturnsInHanded {} Try.checked os 3 .any (Rows.commitRoomSpec.pre6 enc Try.prog Try.f3 Rows.commitRoomRow.domain false) (Rows.commitRoomSpec.post enc Try.prog Try.f3 false true false false) := by
  refine returnsInHanded_of_change (C := Try.checked) own started (by kernel_rfl) Try.func3
    (ChangeSpec.witness6 (enc := enc) (C := Try.checked) false ⟨#[], #[.slice none 0 0, .slice none 0 0, .int .i64 0], []⟩ 8 (by kernel_rfl) (by kernel_rfl) (by kernel_rfl) (by kernel_rfl)) ?_
  intro W base args ds gs before hval0 hW hcnd _
  have hval : ∀ (j : Nat) t v, Try.f3.params[j]? = some t → args[j]? = some v → Value.okWide Try.prog W .any base t v := hval0
  have hW' := hW
  obtain ⟨p, q, hA0, hV, rfl, hfz, hnd⟩ := hW
  have hA : DataW.TrodAll enc Try.prog W 0 (fun _ => true) true Try.f3.params.toList args.toList ds p := hA0
  rw [Try.params3] at hA hval
  obtain ⟨v0, vs0, d0, ds0, p0, q0, hargs, rfl, rfl, h0, r0⟩ := trodAll_cons hA
  obtain ⟨v1, vs1, d1, ds1, p1, q1, rfl, rfl, rfl, h1, r1⟩ := trodAll_cons r0
  obtain ⟨v2, vs2, d2, ds2, p2, q2, rfl, rfl, rfl, h2, r2⟩ := trodAll_cons r1
  obtain ⟨rfl, rfl, rfl⟩ := trodAll_nil r2
  obtain rfl : args = #[v0, v1, v2] := by cases args; simp_all
  obtain ⟨rfl, rfl⟩ := trodVars_none hV
  have lt0 : ∀ x ∈ p0, x.block < W.heap.size := by obtain ⟨m, hm⟩ := h0; exact DataW.trod_lt m _ _ _ hm
  have k0 := h0
  have lt1 : ∀ x ∈ p1, x.block < W.heap.size := by obtain ⟨m, hm⟩ := h1; exact DataW.trod_lt m _ _ _ hm
  have k1 := h1
  have lt2 : ∀ x ∈ p2, x.block < W.heap.size := by obtain ⟨m, hm⟩ := h2; exact DataW.trod_lt m _ _ _ hm
  have k2 := h2
  obtain ⟨a0, n0, c0, rfl⟩ := okWide_slice Try.underlying22 (hval 0 22 v0 rfl rfl)
  obtain ⟨x0, hn0, hf0, hl0, hc0⟩ := open_files h0
  obtain ⟨a1, n1, c1, rfl⟩ := okWide_slice Try.underlying22 (hval 1 22 v1 rfl rfl)
  obtain ⟨x1, hn1, hf1, hl1, hc1⟩ := open_files h1
  obtain ⟨x2, rfl, _, _, w2⟩ := open_int Try.underlying3 (hval 2 3 v2 rfl rfl) h2
  clear hA0 hval0
  refine (walk W a0 n0 c0 x0 hn0 hf0 hl0 hc0 a1 n1 c1 x1 hn1 hf1 hl1 hc1 x2 (int_bounds w2).1 (int_bounds w2).2).mono fun e W' ⟨he, bel⟩ => ?_
  subst he
  exact ⟨_, rfl, _, _, _, [], _, [], hW', trodAll_mk1 (shut_bool Try.underlying4 _), (trodAll_cons_mk (Below.trod laidOut (by kernel_rfl) (of_decide_eq_true (by kernel_rfl)) k0 bel lt0) (trodAll_cons_mk (Below.trod laidOut (by kernel_rfl) (of_decide_eq_true (by kernel_rfl)) k1 bel lt1) (trodAll_cons_mk (Below.trod laidOut (by kernel_rfl) (of_decide_eq_true (by kernel_rfl)) k2 bel lt2) trodAll_mk0))), rfl, bel.frame _, fun h => by cases h⟩
theorem over : Rows.commitRoomRow.holds Try.pinned (OpenSpec.ofChange Rows.commitRoomSpec) :=
  OpenClaim.holds_of_wide 3 Try.f3 rfl rfl rfl rfl rfl rfl rfl ⟨rfl, rfl, rfl, rfl, rfl⟩ rfl rfl rfl rfl rfl (by kernel_rfl) Try.func3 (by kernel_rfl)
    (of_decide_eq_true (by kernel_rfl)) (by unfold Func.isWrapper; first | (rw [if_pos (by decide +kernel)]; kernel_rfl) | (rw [if_neg (by decide +kernel)]; exact ⟨rfl, rfl⟩))
    (fun os started H enc _ => lifted os started H enc)
theorem proved : Rows.CommitRoomSaid := over
#print axioms proved
end Go.Proofs.Ytcfbkhgdlgnmgaa.commitRoom
