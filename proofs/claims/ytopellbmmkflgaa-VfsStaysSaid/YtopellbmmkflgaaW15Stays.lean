/- VfsStays: the walk. -/
import Derived.Test.YtopellbmmkflgaaVsP
set_option linter.unusedVariables false
set_option linter.unusedSimpArgs false
namespace Go.Proofs.Ytopellbmmkflgaa
open Go.RowKit Go.Maps Go.Sort
attribute [local go_sem] Vc.known_tmp Vc.known_const Vc.known_func Vc.known_global Vc.lk Vc.okUpon Vc.Fact.holds
theorem Sv.outside3 {w0 W W' : World} {X : Nat → Prop} {p g : Nat} {s : V} (h : Sv w0 W X p s) (hg : W.grownBy W' (some g)) (hx : ¬ X g) (hl : w0.heap.size ≤ g) : Sv w0 W' X p s :=
  ⟨h.at_.frame (Tr.of_grown (X := fun i => i = g) hg (fun i e => by injection e with e; exact e.symm)) (fun i hi hxi => hx (hi ▸ hxi)), Below.grown h.gr hg h.gr.size (fun k hk => by cases hk; exact hl), h.hi⟩
theorem str_at {W : World} {A : Option Addr} {b : Str} {n : Nat} (c : Nat) (hn : b.length = n) (h : Rd W A (b.map bv)) : (convert 31 9 (.slice A n c)).run Try.prog W = .ok (encStr b) W :=
  run_str h _ _ _ n c hn.symm Try.underlying31 Try.underlying5 Try.underlying9
def nmL3 : List Str := [[97], [98], [99]]
theorem nmL3_at {k : Nat} (hk : k < 3) : (nmL3.map encStr)[k]? = some (encStr (nm3 k)) := by
  have : k = 0 ∨ k = 1 ∨ k = 2 := by omega
  rcases this with rfl | rfl | rfl <;> rfl
def ow (o : Option Str) : Value := encStr (o.getD [])
def oi (o : Option Str) : Value := .bool o.isSome
/-- The two arrays: what is wanted, and whether. -/
structure Wn (W : World) (g : Nat) (os : List (Option Str)) : Prop where
  a : Row W g 41 (os.map ow)
  b : Row W (g + 1) 42 (os.map oi)
section
variable {W W' : World} {g k : Nat} {os : List (Option Str)} {X X' : Nat → Prop} {b : Str}
theorem Wn.gr (h : Wn W g os) (hg : Gr W W') : Wn W' g os := ⟨h.a.gr hg, h.b.gr hg⟩
theorem Wn.mv (h : Wn W g os) (hm : Mv W X W' X') (ha : ¬ X g) (hb : ¬ X (g + 1)) : Wn W' g os ∧ ¬ X' g ∧ ¬ X' (g + 1) :=
  ⟨⟨(hm.row h.a ha).1, (hm.row h.b hb).1⟩, (hm.row h.a ha).2, (hm.row h.b hb).2⟩
theorem Wn.set (h : Wn W g os) (k : Nat) (b : Str) : Wn ((W.setCell ⟨g, k, none⟩ (encStr b)).setCell ⟨g + 1, k, none⟩ (.bool true)) g (os.set k (some b)) := by
  refine ⟨?_, ?_⟩
  · have := (h.a.set k (encStr b)).far (p := ⟨g + 1, k, none⟩) (by simp) (.bool true)
    rw [List.map_set]
    exact this
  · have := (h.b.far (p := ⟨g, k, none⟩) (by simp) (encStr b)).set k (.bool true)
    rw [List.map_set]
    exact this
theorem Wn.cells (h : Wn W g os) (hl : os.length = 3) (hk : k < 3) : W.cell? ⟨g, k, none⟩ = some (ow (os.getD k none)) ∧ W.cell? ⟨g + 1, k, none⟩ = some (oi (os.getD k none)) := by
  have hk' : k < os.length := by omega
  refine ⟨?_, ?_⟩
  · rw [h.a.cell, List.getElem?_map, List.getElem?_eq_getElem hk', List.getD_eq_getElem?_getD, List.getElem?_eq_getElem hk']
    rfl
  · rw [h.b.cell, List.getElem?_map, List.getElem?_eq_getElem hk', List.getD_eq_getElem?_getD, List.getElem?_eq_getElem hk']
    rfl
end
def st3 (a b c : World) : Nat → World
  | 0 => a
  | 1 => b
  | _ => c
theorem half_bounds (n c : Nat) (h : n ≤ c) : (0 : Int) ≤ (n : Int) / 2 ∧ (n : Int) / 2 ≤ (c : Int) ∧ ((n : Int) / 2).toNat = n / 2 := ⟨by omega, by omega, by omega⟩
theorem half_len (b : Str) (n : Nat) (h : b.length = n) : (b.take (b.length / 2)).length = n / 2 := by
  rw [List.length_take, h]
  omega
theorem half_wraps (n : Nat) (h : n ≤ 200) : IntKind.i64.wrap ((n : Int).tdiv 2) = (n : Int) / 2 ∧ IntKind.i64.wrap ((n : Int) / 2) = (n : Int) / 2 ∧ wrap64 ((n : Int) / 2) = (n : Int) / 2 := by
  refine ⟨?_, ?_, ?_⟩
  · rw [Int.tdiv_eq_ediv_of_nonneg (by omega), IntKind.wrap_i64]
    omega
  · rw [IntKind.wrap_i64]
    omega
  · unfold wrap64
    omega
set_option maxRecDepth 20000 in
set_option maxHeartbeats 16000000 in
theorem vfsStays.walk (w : World) (A : Option Addr) (n c : Nat) (rs : List Rw) (hn : Hid (rs.length = n)) (hr : Rd w A (rs.map Rw.val)) (hok : ∀ q ∈ rs, q.Ok w) (hlc : n ≤ c) (hcm : c ≤ maxLen)
    (A1 : Option Addr) (n1 c1 : Nat) (ns : List Int) (hn1 : Hid (ns.length = n1)) (hr1 : Rd w A1 (ns.map iv)) (hns : ∀ x ∈ ns, -9223372036854775808 ≤ x ∧ x ≤ 9223372036854775807) (hlc1 : n1 ≤ c1) (hcm1 : c1 ≤ maxLen)
    (r : Int) (r0 : -9223372036854775808 ≤ r) (r1 : r ≤ 9223372036854775807)
    (A2 : Option Addr) (n2 c2 : Nat) (ks : List Int) (hn2 : Hid (ks.length = n2)) (hr2 : Rd w A2 (ks.map iv)) (hks : ∀ x ∈ ks, -9223372036854775808 ≤ x ∧ x ≤ 9223372036854775807) (hlc2 : n2 ≤ c2) (hcm2 : c2 ≤ maxLen) :
    Calls Try.prog 6 #[.slice A n c, .slice A1 n1 c1, .int .i64 r, .slice A2 n2 c2] w fun e w' => e = .returned (.bool true) ∧ Gr w w' := by
  have hK := Lib.hid (known_any w)
  have hnc := Nat.le_trans hlc hcm
  have hnc1 := Nat.le_trans hlc1 hcm1
  have hnc2 := Nat.le_trans hlc2 hcm2
  unfold maxLen at hnc hnc1 hnc2
  by_cases h15 : 15 < n
  · have h15' : (15 : Int) < n := by omega
    go_enter Try.func6, Try.ntmps6
    go_wp2_with (go_at_call 10; (with_reducible refine hK.out.mono ?_); rintro e w1 ⟨rfl, hg1⟩; clear hK)
    go_ret
    exact ⟨rfl, hg1⟩
  have h15' : ¬ (15 : Int) < n := by omega
  have HN := Lib.hid (fun W => new_any 10000 W)
  have HWs := Lib.hid (fun W => within1_any r ((n : Int) + 1) W r0 r1 (by omega) (by omega))
  have hs0 := Int.emod_nonneg r (show (n : Int) + 1 ≠ 0 by omega)
  have hs1 := Int.emod_lt_of_pos r (show (0 : Int) < (n : Int) + 1 by omega)
  obtain ⟨sy, hsy⟩ : ∃ sy : Nat, r % ((n : Int) + 1) = (sy : Int) := ⟨(r % ((n : Int) + 1)).toNat, by omega⟩
  rw [hsy] at HWs hs0 hs1
  have hsn : sy ≤ n := by omega
  clear hsy hs0 hs1
  go_enter Try.func6, Try.ntmps6
  go_wp2_with (first
    | (go_at_call 10; (with_reducible refine hK.out.mono ?_); rintro e w1 ⟨rfl, hg1⟩; clear hK)
    | (go_at_call 12; (with_reducible refine (HN.out _).mono ?_); rintro e w2 ⟨p, X, rfl, ha2, hg2, hx⟩
       have hS := Lib.hid (Sv.new ha2 (hg1.trans' hg2) (fun i hi => Nat.le_trans hg1.size (hx i hi)))
       clear HN ha2 hx)
    | (go_at_call 11; (with_reducible refine (HWs.out _).mono ?_); rintro e w3 ⟨rfl, rfl⟩; clear HWs))
  have hgA := (Gr.alloc1 w2 (.cells #[.string ByteArray.empty, .string ByteArray.empty, .string ByteArray.empty] 41)).trans' (Gr.alloc1 _ (.cells #[.bool false, .bool false, .bool false] 42))
  have hWn : Wn ((w2.alloc (.cells #[.string ByteArray.empty, .string ByteArray.empty, .string ByteArray.empty] 41)).alloc (.cells #[.bool false, .bool false, .bool false] 42)) w2.heap.size [none, none, none] :=
    ⟨(Row.new w2 41 _).alloc _, by have := Row.new (w2.alloc (.cells #[.string ByteArray.empty, .string ByteArray.empty, .string ByteArray.empty] 41)) 42 [.bool false, .bool false, .bool false]; rw [show (w2.alloc (.cells #[.string ByteArray.empty, .string ByteArray.empty, .string ByteArray.empty] 41)).heap.size = w2.heap.size + 1 by simp] at this; exact this⟩
  have hxa : ¬ X w2.heap.size := fun h => Nat.lt_irrefl _ (hS.out.at_.lt _ h)
  have hxb : ¬ X (w2.heap.size + 1) := fun h => by have := hS.out.at_.lt _ h; omega
  have hgw : w.heap.size ≤ w2.heap.size := hS.out.gr.size
  have hS := Lib.hid (hS.out.more hgA)
  have hI := Lib.hid (YI.new ks)
  have hwn := Lib.hid hWn
  generalize hgW : w2.heap.size = gw at *
  go_loopw [12] (fun i wr => ∃ (j : Nat) (X : Nat → Prop) (s : V) (os : List (Option Str)), j ≤ n ∧ i = .int .i64 j ∧ Hid (Sv w wr X p s) ∧ Hid (YI s ks (decide (sy < j)) (j - sy) (2 * j + 1) os) ∧ Hid (Wn wr gw os) ∧ ¬ X gw ∧ ¬ X (gw + 1)) (fun i _ => n - (intOf i).toNat)
  case atStart => exact ⟨0, X, _, _, by omega, rfl, hS, Lib.hid (by rw [show decide (sy < 0) = false by simp, show 0 - sy = 0 by omega]; exact hI.out.more), hwn, hxa, hxb⟩
  case round =>
    clear hS hI hwn hxa hxb hgA hWn
    obtain ⟨j, X, s, os, hj, rfl, hS, hI, hWn, hxa, hxb⟩ := hrel
    by_cases hlt : j < n
    · have hjl : j < rs.length := by have := hn.out; omega
      have hqok := hok rs[j] (List.getElem_mem hjl)
      obtain ⟨ad, rfl, hc⟩ := hr.at_ (k := j) (by simpa using hjl)
      rw [List.getElem_map] at hc
      generalize rs[j] = q at *
      obtain ⟨qA, qn, qc, b⟩ := q
      have hql := hqok.len
      have hqr := hqok.rd
      have hqc := Nat.le_trans hqok.le hqok.lec
      have hqle := hqok.le
      simp only at hql hqr hqc hqle
      unfold maxLen at hqc
      have hc : w.cell? (ad.add j) = some (.slice qA qn qc) := hc
      clear hqok
      have cr := hS.out.gr.cell hc
      have hj1 : (j : Int) < (n : Int) := by omega
      by_cases h200 : 200 < qn
      · have h200' : (200 : Int) < qn := by omega
        go_wp2_with fail
        go_ret
        exact ⟨rfl, hS.out.gr⟩
      · have h200' : ¬ (200 : Int) < qn := by omega
        have hqn : qn ≤ 200 := by omega
        have hb200 : b.length ≤ 200 := by have := hql.out; omega
        have hsm : Sm s := ⟨Nat.le_trans hI.out.ops (by omega), by rw [hI.out.stop]; omega⟩
        rcases Nat.lt_trichotomy j sy with hjs | hjs | hjs
        · have hjs' : ((j : Int) == (sy : Int)) = false := by simp; omega
          have hI1 : Hid (YI s ks false (j - sy) (2 * j + 1) os) := Lib.hid (by have h1 := hI.out; rw [show decide (sy < j) = false by simp; omega] at h1; exact h1)
          by_cases hj1n : j < n1
          · have hjn : j < ns.length := by have := hn1.out; omega
            have hj1n' : (j : Int) < (n1 : Int) := by omega
            obtain ⟨nb, no, rfl, hnx⟩ := hr1.spot (by simp; omega)
            have hnx : w.cell? ⟨nb, no + j, none⟩ = some (.int .i64 ns[j]) := hnx j _ (by rw [List.getElem?_map, List.getElem?_eq_getElem hjn]; rfl)
            have hnb := hns ns[j] (List.getElem_mem hjn)
            generalize ns[j] = nv at *
            have HWn := Lib.hid (fun W => within1_any nv 3 W hnb.1 hnb.2 (by decide) (by decide))
            have hk0 := Int.emod_nonneg nv (show (3 : Int) ≠ 0 by decide)
            have hk1 := Int.emod_lt_of_pos nv (show (0 : Int) < 3 by decide)
            obtain ⟨k, hk⟩ : ∃ k : Nat, nv % 3 = (k : Int) := ⟨(nv % 3).toNat, by omega⟩
            rw [hk] at HWn hk0 hk1
            have hk3 : k < 3 := by omega
            clear hk hk0 hk1
            have cr4 := hS.out.gr.cell hnx
            go_wp2_with (first
              | (go_at_call 11; (with_reducible refine (HWn.out _).mono ?_); rintro e V9 ⟨rfl, rfl⟩; clear HWn))
            have hS1 := hS
            have hWn1 := hWn
            have hxa1 := hxa
            have hxb1 := hxb
            have hsm1 : Sm s := ⟨Nat.le_trans hI1.out.ops (by omega), by rw [hI1.out.stop]; omega⟩
            obtain ⟨s2, he2, hI2⟩ := hI1.out.write hS1.out.ok hk3 hb200 (by omega)
            have HW := Lib.hid (fun (V : World) (hV : Gr wr V) => write_any (hS1.out.more hV).at_ hsm1 (nm3 k) (by rw [nm3_len k hk3]; decide) qA qn qc b hql (hqr.gr ((hS1.out.more hV).gr)) (by omega))
            rw [he2] at HW
            have cq := Lib.hid (hS1.out.gr.cell hc)
            have hI2 := Lib.hid hI2
            have hl3 := Lib.hid hI1.out.len
            clear he2 hI1
            refine Vc.wp_region_split ⟨Gr, fun _ => Gr, fun _ V => Gr wr V, []⟩ 9 [] (by kernel_rfl) (by kernel_rfl) (by kernel_rfl) (by decide) (by simp) (by simp) (by simp) (fun _ _ h => h.size) (fun _ _ _ h => h.size) (fun _ _ _ h h' => h'.trans' h) (Gr.draw _) ?_
            repeat
              refine Vc.Walk.pure (v := ?_) (fun _ => Gr.rfl' _) rfl (by first | exact Vc.GuardYes.no rfl | exact Vc.GuardYes.yes rfl rfl) rfl rfl ?_ ?_
              rotate_left
              · intro _ W hI
                (clear hI)
                go_simp
                exact rfl
            refine Vc.Walk.call (.fits (Vc.All fun v V => ∃ g, v = .slice (some ⟨g, 0, none⟩) 3 3 ∧ Row V g 9 (nmL3.map encStr))) (Vc.All.stable (fun u V V' hl hf => by obtain ⟨g, e, hR⟩ := hf; exact ⟨g, e, hR.gr hl⟩) (fun _ u V V' _ hl hf => by obtain ⟨g, e, hR⟩ := hf; exact ⟨g, e, hR.gr hl⟩)) (.no rfl) rfl rfl ?_ ?_
            · intro _ V hI
              clear hI
              go_simp
              exact ⟨⟨_, rfl, Row.new V _ (nmL3.map encStr)⟩, Gr.alloc1 _ _⟩
            repeat
              refine Vc.Walk.pure (v := ?_) (fun _ => Gr.rfl' _) rfl (by first | exact Vc.GuardYes.no rfl | exact Vc.GuardYes.yes rfl rfl) rfl rfl ?_ ?_
              rotate_left
              · intro _ W hI
                (clear hI)
                go_simp
                exact rfl
            refine Vc.Walk.any (.fits (Vc.All fun v V => ∃ g, v = .pointer (some ⟨g, k, none⟩) ∧ Row V g 9 (nmL3.map encStr))) (Vc.All.stable (fun u V V' hl hf => by obtain ⟨g, e, hR⟩ := hf; exact ⟨g, e, hR.gr hl⟩) (fun _ u V V' _ hl hf => by obtain ⟨g, e, hR⟩ := hf; exact ⟨g, e, hR.gr hl⟩)) (.no rfl) ?_ ?_
            · intro ρ _ V hI hf
              obtain ⟨⟨g, hρ1, hR⟩, hρ2, _⟩ := hf
              have e1 : ρ (.tmp 62) = .slice (some ⟨g, 0, none⟩) 3 3 := hρ1
              have e2 : ρ (.tmp 63) = .int .i64 k := hρ2
              have hk3' : (k : Int) < 3 := by omega
              clear hI hρ1 hρ2
              go_simp
              exact ⟨⟨_, rfl, hR⟩, Gr.rfl' _⟩
            refine Vc.Walk.any (.is (encStr (nm3 k))) trivial (.no rfl) ?_ ?_
            · intro ρ _ V hI hf
              obtain ⟨⟨g, hρ1, hR⟩, _⟩ := hf
              have e1 : ρ (.tmp 64) = .pointer (some ⟨g, k, none⟩) := hρ1
              have hcell : V.cell? ⟨g, k, none⟩ = some (encStr (nm3 k)) := (hR.cell k).trans (nmL3_at hk3)
              clear hI hρ1
              go_simp
              first | exact ⟨rfl, Gr.rfl' _⟩ | exact Gr.rfl' _
            repeat
              refine Vc.Walk.pure (v := ?_) (fun _ => Gr.rfl' _) rfl (by first | exact Vc.GuardYes.no rfl | exact Vc.GuardYes.yes rfl rfl) rfl rfl ?_ ?_
              rotate_left
              · intro _ W hI
                (have q := hI.g; clear hI; have q0 := q.cell cq.out; clear q)
                go_simp
                exact rfl
            intro V hV
            have hV : Gr wr V := hV
            simp only [List.reverse_cons, List.reverse_nil, List.nil_append, List.cons_append, Vc.finish, Act.put, List.setIfInBounds_toArray, List.set_cons_zero, List.set_cons_succ]
            rintro u62 ⟨_, rfl, _⟩ u64 ⟨_, rfl, _⟩ _
            simp only [List.drop_succ_cons, List.drop_zero]
            replace HW := Lib.hid (HW.out V hV)
            have hWV := Lib.hid (hWn1.out.gr hV)
            have hk3' : (k : Int) < 3 := by omega
            have hIe : Hid (YI s2 ks (decide (sy < j + 1)) (j + 1 - sy) (2 * (j + 1) + 1) (os.set k (some b))) := Lib.hid (by
              have h1 := hI2.out.more.anyM (j + 1 - sy)
              rw [show decide (sy < j + 1) = false by simp; omega]
              simpa [wantS, show 2 * (j + 1) + 1 = 2 * j + 1 + 1 + 1 by omega] using h1)
            have hge : ¬ (sy : Int) ≤ (j : Int) := by omega
            go_wp2_with (first
              | (go_at_call 13; (with_reducible refine HW.out.mono ?_); rintro e V2 ⟨rfl, X2, ha2, hm2⟩
                 obtain ⟨hWn2, hxa2, hxb2⟩ := hWV.out.mv hm2 hxa1 hxb1
                 have hS2 := Lib.hid ((hS1.out.more hV).step ha2 hm2)
                 obtain ⟨d1, d2⟩ := hWn2.cells hl3.out hk3
                 have f1 := hWn2.a.frozen k
                 have f2 := hWn2.b.frozen k
                 have cr2 := hS2.out.gr.cell hc
                 have sb := str_at qc hql.out (hqr.gr hS2.out.gr)
                 have hWn2 := Lib.hid hWn2
                 skip
                 unfold ow at d1
                 unfold oi at d2
                 clear HW ha2 hm2 hWV))
            go_roundw
            case rel =>
              have g1 := only_set V2 gw k (encStr b)
              have g2 := only_set (V2.setCell ⟨gw, k, none⟩ (encStr b)) (gw + 1) k (.bool true)
              exact ⟨j + 1, X2, s2, (os.set k (some b)), by omega, by simp, Lib.hid ((hS2.out.outside3 g1 hxa2 hgw).outside3 g2 hxb2 (by omega)), hIe, Lib.hid (hWn2.out.set k b), hxa2, hxb2⟩
            case measure => simp [intOf]; omega
          · have hj1n' : ¬ (j : Int) < (n1 : Int) := by omega
            obtain ⟨k, hk⟩ : ∃ k : Nat, j % 3 = k := ⟨_, rfl⟩
            have hk3 : k < 3 := by omega
            have hke : (j : Int) % 3 = (k : Int) := by omega
            have hkt : (j : Int).tmod 3 = (k : Int) := by rw [Int.tmod_eq_emod_of_nonneg (by omega)]; omega
            clear hk
            go_wp2_with fail
            have hS1 := hS
            have hWn1 := hWn
            have hxa1 := hxa
            have hxb1 := hxb
            have hsm1 : Sm s := ⟨Nat.le_trans hI1.out.ops (by omega), by rw [hI1.out.stop]; omega⟩
            obtain ⟨s2, he2, hI2⟩ := hI1.out.write hS1.out.ok hk3 hb200 (by omega)
            have HW := Lib.hid (fun (V : World) (hV : Gr wr V) => write_any (hS1.out.more hV).at_ hsm1 (nm3 k) (by rw [nm3_len k hk3]; decide) qA qn qc b hql (hqr.gr ((hS1.out.more hV).gr)) (by omega))
            rw [he2] at HW
            have cq := Lib.hid (hS1.out.gr.cell hc)
            have hI2 := Lib.hid hI2
            have hl3 := Lib.hid hI1.out.len
            clear he2 hI1
            refine Vc.wp_region_split ⟨Gr, fun _ => Gr, fun _ V => Gr wr V, []⟩ 9 [] (by kernel_rfl) (by kernel_rfl) (by kernel_rfl) (by decide) (by simp) (by simp) (by simp) (fun _ _ h => h.size) (fun _ _ _ h => h.size) (fun _ _ _ h h' => h'.trans' h) (Gr.draw _) ?_
            repeat
              refine Vc.Walk.pure (v := ?_) (fun _ => Gr.rfl' _) rfl (by first | exact Vc.GuardYes.no rfl | exact Vc.GuardYes.yes rfl rfl) rfl rfl ?_ ?_
              rotate_left
              · intro _ W hI
                (clear hI)
                go_simp
                exact rfl
            refine Vc.Walk.call (.fits (Vc.All fun v V => ∃ g, v = .slice (some ⟨g, 0, none⟩) 3 3 ∧ Row V g 9 (nmL3.map encStr))) (Vc.All.stable (fun u V V' hl hf => by obtain ⟨g, e, hR⟩ := hf; exact ⟨g, e, hR.gr hl⟩) (fun _ u V V' _ hl hf => by obtain ⟨g, e, hR⟩ := hf; exact ⟨g, e, hR.gr hl⟩)) (.no rfl) rfl rfl ?_ ?_
            · intro _ V hI
              clear hI
              go_simp
              exact ⟨⟨_, rfl, Row.new V _ (nmL3.map encStr)⟩, Gr.alloc1 _ _⟩
            repeat
              refine Vc.Walk.pure (v := ?_) (fun _ => Gr.rfl' _) rfl (by first | exact Vc.GuardYes.no rfl | exact Vc.GuardYes.yes rfl rfl) rfl rfl ?_ ?_
              rotate_left
              · intro _ W hI
                (clear hI)
                go_simp
                exact rfl
            refine Vc.Walk.any (.fits (Vc.All fun v V => ∃ g, v = .pointer (some ⟨g, k, none⟩) ∧ Row V g 9 (nmL3.map encStr))) (Vc.All.stable (fun u V V' hl hf => by obtain ⟨g, e, hR⟩ := hf; exact ⟨g, e, hR.gr hl⟩) (fun _ u V V' _ hl hf => by obtain ⟨g, e, hR⟩ := hf; exact ⟨g, e, hR.gr hl⟩)) (.no rfl) ?_ ?_
            · intro ρ _ V hI hf
              obtain ⟨⟨g, hρ1, hR⟩, hρ2, _⟩ := hf
              have e1 : ρ (.tmp 62) = .slice (some ⟨g, 0, none⟩) 3 3 := hρ1
              have e2 : ρ (.tmp 63) = .int .i64 k := hρ2
              have hk3' : (k : Int) < 3 := by omega
              clear hI hρ1 hρ2
              go_simp
              exact ⟨⟨_, rfl, hR⟩, Gr.rfl' _⟩
            refine Vc.Walk.any (.is (encStr (nm3 k))) trivial (.no rfl) ?_ ?_
            · intro ρ _ V hI hf
              obtain ⟨⟨g, hρ1, hR⟩, _⟩ := hf
              have e1 : ρ (.tmp 64) = .pointer (some ⟨g, k, none⟩) := hρ1
              have hcell : V.cell? ⟨g, k, none⟩ = some (encStr (nm3 k)) := (hR.cell k).trans (nmL3_at hk3)
              clear hI hρ1
              go_simp
              first | exact ⟨rfl, Gr.rfl' _⟩ | exact Gr.rfl' _
            repeat
              refine Vc.Walk.pure (v := ?_) (fun _ => Gr.rfl' _) rfl (by first | exact Vc.GuardYes.no rfl | exact Vc.GuardYes.yes rfl rfl) rfl rfl ?_ ?_
              rotate_left
              · intro _ W hI
                (have q := hI.g; clear hI; have q0 := q.cell cq.out; clear q)
                go_simp
                exact rfl
            intro V hV
            have hV : Gr wr V := hV
            simp only [List.reverse_cons, List.reverse_nil, List.nil_append, List.cons_append, Vc.finish, Act.put, List.setIfInBounds_toArray, List.set_cons_zero, List.set_cons_succ]
            rintro u62 ⟨_, rfl, _⟩ u64 ⟨_, rfl, _⟩ _
            simp only [List.drop_succ_cons, List.drop_zero]
            replace HW := Lib.hid (HW.out V hV)
            have hWV := Lib.hid (hWn1.out.gr hV)
            have hk3' : (k : Int) < 3 := by omega
            have hIe : Hid (YI s2 ks (decide (sy < j + 1)) (j + 1 - sy) (2 * (j + 1) + 1) (os.set k (some b))) := Lib.hid (by
              have h1 := hI2.out.more.anyM (j + 1 - sy)
              rw [show decide (sy < j + 1) = false by simp; omega]
              simpa [wantS, show 2 * (j + 1) + 1 = 2 * j + 1 + 1 + 1 by omega] using h1)
            have hge : ¬ (sy : Int) ≤ (j : Int) := by omega
            go_wp2_with (first
              | (go_at_call 13; (with_reducible refine HW.out.mono ?_); rintro e V2 ⟨rfl, X2, ha2, hm2⟩
                 obtain ⟨hWn2, hxa2, hxb2⟩ := hWV.out.mv hm2 hxa1 hxb1
                 have hS2 := Lib.hid ((hS1.out.more hV).step ha2 hm2)
                 obtain ⟨d1, d2⟩ := hWn2.cells hl3.out hk3
                 have f1 := hWn2.a.frozen k
                 have f2 := hWn2.b.frozen k
                 have cr2 := hS2.out.gr.cell hc
                 have sb := str_at qc hql.out (hqr.gr hS2.out.gr)
                 have hWn2 := Lib.hid hWn2
                 skip
                 unfold ow at d1
                 unfold oi at d2
                 clear HW ha2 hm2 hWV))
            go_roundw
            case rel =>
              have g1 := only_set V2 gw k (encStr b)
              have g2 := only_set (V2.setCell ⟨gw, k, none⟩ (encStr b)) (gw + 1) k (.bool true)
              exact ⟨j + 1, X2, s2, (os.set k (some b)), by omega, by simp, Lib.hid ((hS2.out.outside3 g1 hxa2 hgw).outside3 g2 hxb2 (by omega)), hIe, Lib.hid (hWn2.out.set k b), hxa2, hxb2⟩
            case measure => simp [intOf]; omega
        · have hjs' : ((j : Int) == (sy : Int)) = true := by simp; omega
          obtain ⟨s1, heF, hI1⟩ := YI.flush (by have h1 := hI.out; rw [show decide (sy < j) = false by simp; omega] at h1; exact h1)
          have HF := Lib.hid (flush_any hS.out.at_ hsm)
          rw [heF] at HF
          obtain ⟨m1, hm1⟩ : ∃ m, Hid (m = j - sy) := ⟨_, Lib.hid rfl⟩
          have hI1 : Hid (YI s1 ks true m1 (2 * j + 1 + 1) os) := Lib.hid (by rw [show m1 = 0 by have := hm1.out; omega]; exact hI1)
          have hsj : sy ≤ j := by omega
          replace hjs := Lib.hid hjs
          clear heF
          by_cases hj1n : j < n1
          · have hjn : j < ns.length := by have := hn1.out; omega
            have hj1n' : (j : Int) < (n1 : Int) := by omega
            obtain ⟨nb, no, rfl, hnx⟩ := hr1.spot (by simp; omega)
            have hnx : w.cell? ⟨nb, no + j, none⟩ = some (.int .i64 ns[j]) := hnx j _ (by rw [List.getElem?_map, List.getElem?_eq_getElem hjn]; rfl)
            have hnb := hns ns[j] (List.getElem_mem hjn)
            generalize ns[j] = nv at *
            have HWn := Lib.hid (fun W => within1_any nv 3 W hnb.1 hnb.2 (by decide) (by decide))
            have hk0 := Int.emod_nonneg nv (show (3 : Int) ≠ 0 by decide)
            have hk1 := Int.emod_lt_of_pos nv (show (0 : Int) < 3 by decide)
            obtain ⟨k, hk⟩ : ∃ k : Nat, nv % 3 = (k : Int) := ⟨(nv % 3).toNat, by omega⟩
            rw [hk] at HWn hk0 hk1
            have hk3 : k < 3 := by omega
            clear hk hk0 hk1
            go_wp2_with (first
              | (go_at_call 19; (with_reducible refine HF.out.mono ?_); rintro e V1 ⟨rfl, X1, ha1, hm1'⟩
                 obtain ⟨hWn1, hxa1, hxb1⟩ := hWn.out.mv hm1' hxa hxb
                 have hS1 := Lib.hid (hS.out.step ha1 hm1')
                 have hWn1 := Lib.hid hWn1
                 have cr1 := hS1.out.gr.cell hc
                 have cr4 := hS1.out.gr.cell hnx
                 clear HF ha1 hm1')
              | (go_at_call 11; (with_reducible refine (HWn.out _).mono ?_); rintro e V9 ⟨rfl, rfl⟩; clear HWn))
            have hsm1 : Sm s1 := ⟨Nat.le_trans hI1.out.ops (by omega), by rw [hI1.out.stop]; omega⟩
            obtain ⟨s2, he2, hI2⟩ := hI1.out.write hS1.out.ok hk3 hb200 (by omega)
            have HW := Lib.hid (fun (V : World) (hV : Gr V1 V) => write_any (hS1.out.more hV).at_ hsm1 (nm3 k) (by rw [nm3_len k hk3]; decide) qA qn qc b hql (hqr.gr ((hS1.out.more hV).gr)) (by omega))
            rw [he2] at HW
            have cq := Lib.hid (hS1.out.gr.cell hc)
            have hI2 := Lib.hid hI2
            have hl3 := Lib.hid hI1.out.len
            clear he2 hI1
            refine Vc.wp_region_split ⟨Gr, fun _ => Gr, fun _ V => Gr V1 V, []⟩ 9 [] (by kernel_rfl) (by kernel_rfl) (by kernel_rfl) (by decide) (by simp) (by simp) (by simp) (fun _ _ h => h.size) (fun _ _ _ h => h.size) (fun _ _ _ h h' => h'.trans' h) (Gr.draw _) ?_
            repeat
              refine Vc.Walk.pure (v := ?_) (fun _ => Gr.rfl' _) rfl (by first | exact Vc.GuardYes.no rfl | exact Vc.GuardYes.yes rfl rfl) rfl rfl ?_ ?_
              rotate_left
              · intro _ W hI
                (clear hI)
                go_simp
                exact rfl
            refine Vc.Walk.call (.fits (Vc.All fun v V => ∃ g, v = .slice (some ⟨g, 0, none⟩) 3 3 ∧ Row V g 9 (nmL3.map encStr))) (Vc.All.stable (fun u V V' hl hf => by obtain ⟨g, e, hR⟩ := hf; exact ⟨g, e, hR.gr hl⟩) (fun _ u V V' _ hl hf => by obtain ⟨g, e, hR⟩ := hf; exact ⟨g, e, hR.gr hl⟩)) (.no rfl) rfl rfl ?_ ?_
            · intro _ V hI
              clear hI
              go_simp
              exact ⟨⟨_, rfl, Row.new V _ (nmL3.map encStr)⟩, Gr.alloc1 _ _⟩
            repeat
              refine Vc.Walk.pure (v := ?_) (fun _ => Gr.rfl' _) rfl (by first | exact Vc.GuardYes.no rfl | exact Vc.GuardYes.yes rfl rfl) rfl rfl ?_ ?_
              rotate_left
              · intro _ W hI
                (clear hI)
                go_simp
                exact rfl
            refine Vc.Walk.any (.fits (Vc.All fun v V => ∃ g, v = .pointer (some ⟨g, k, none⟩) ∧ Row V g 9 (nmL3.map encStr))) (Vc.All.stable (fun u V V' hl hf => by obtain ⟨g, e, hR⟩ := hf; exact ⟨g, e, hR.gr hl⟩) (fun _ u V V' _ hl hf => by obtain ⟨g, e, hR⟩ := hf; exact ⟨g, e, hR.gr hl⟩)) (.no rfl) ?_ ?_
            · intro ρ _ V hI hf
              obtain ⟨⟨g, hρ1, hR⟩, hρ2, _⟩ := hf
              have e1 : ρ (.tmp 62) = .slice (some ⟨g, 0, none⟩) 3 3 := hρ1
              have e2 : ρ (.tmp 63) = .int .i64 k := hρ2
              have hk3' : (k : Int) < 3 := by omega
              clear hI hρ1 hρ2
              go_simp
              exact ⟨⟨_, rfl, hR⟩, Gr.rfl' _⟩
            refine Vc.Walk.any (.is (encStr (nm3 k))) trivial (.no rfl) ?_ ?_
            · intro ρ _ V hI hf
              obtain ⟨⟨g, hρ1, hR⟩, _⟩ := hf
              have e1 : ρ (.tmp 64) = .pointer (some ⟨g, k, none⟩) := hρ1
              have hcell : V.cell? ⟨g, k, none⟩ = some (encStr (nm3 k)) := (hR.cell k).trans (nmL3_at hk3)
              clear hI hρ1
              go_simp
              first | exact ⟨rfl, Gr.rfl' _⟩ | exact Gr.rfl' _
            repeat
              refine Vc.Walk.pure (v := ?_) (fun _ => Gr.rfl' _) rfl (by first | exact Vc.GuardYes.no rfl | exact Vc.GuardYes.yes rfl rfl) rfl rfl ?_ ?_
              rotate_left
              · intro _ W hI
                (have q := hI.g; clear hI; have q0 := q.cell cq.out; clear q)
                go_simp
                exact rfl
            intro V hV
            have hV : Gr V1 V := hV
            simp only [List.reverse_cons, List.reverse_nil, List.nil_append, List.cons_append, Vc.finish, Act.put, List.setIfInBounds_toArray, List.set_cons_zero, List.set_cons_succ]
            rintro u62 ⟨_, rfl, _⟩ u64 ⟨_, rfl, _⟩ _
            simp only [List.drop_succ_cons, List.drop_zero]
            replace HW := Lib.hid (HW.out V hV)
            have hWV := Lib.hid (hWn1.out.gr hV)
            have hk3' : (k : Int) < 3 := by omega
            have hge : (sy : Int) ≤ (j : Int) := by omega
            have hjm : (j : Int) - (sy : Int) = (m1 : Int) := by have := hm1.out; omega
            by_cases hm2l : m1 < n2
            · have hmk : m1 < ks.length := by have := hn2.out; omega
              have hm2l' : (m1 : Int) < (n2 : Int) := by omega
              obtain ⟨kb, ko, rfl, hkc⟩ := hr2.spot (by simp; omega)
              have hkc : w.cell? ⟨kb, ko + m1, none⟩ = some (.int .i64 ks[m1]) := hkc m1 _ (by rw [List.getElem?_map, List.getElem?_eq_getElem hmk]; rfl)
              have hkg : ks[m1]? = some ks[m1] := List.getElem?_eq_getElem hmk
              generalize ks[m1] = kv at *
              by_cases hv1 : kv = 1
              · subst hv1
                have hIe : Hid (YI s2 ks (decide (sy < j + 1)) (j + 1 - sy) (2 * (j + 1) + 1) (os.set k (some b))) := Lib.hid (by
                  have h1 := hI2.out
                  rw [show decide (sy < j + 1) = true by simp; omega, show j + 1 - sy = m1 + 1 by have := hm1.out; omega]
                  simpa [wantS, hkg, show 2 * (j + 1) + 1 = 2 * j + 1 + 1 + 1 by omega] using h1)
                go_wp2_with (first
                  | (go_at_call 13; (with_reducible refine HW.out.mono ?_); rintro e V2 ⟨rfl, X2, ha2, hm2⟩
                     obtain ⟨hWn2, hxa2, hxb2⟩ := hWV.out.mv hm2 hxa1 hxb1
                     have hS2 := Lib.hid ((hS1.out.more hV).step ha2 hm2)
                     obtain ⟨d1, d2⟩ := hWn2.cells hl3.out hk3
                     have f1 := hWn2.a.frozen k
                     have f2 := hWn2.b.frozen k
                     have cr2 := hS2.out.gr.cell hc
                     have sb := str_at qc hql.out (hqr.gr hS2.out.gr)
                     have hWn2 := Lib.hid hWn2
                     have cr3 := hS2.out.gr.cell hkc
                     unfold ow at d1
                     unfold oi at d2
                     clear HW ha2 hm2 hWV))
                go_roundw
                case rel =>
                  have g1 := only_set V2 gw k (encStr b)
                  have g2 := only_set (V2.setCell ⟨gw, k, none⟩ (encStr b)) (gw + 1) k (.bool true)
                  exact ⟨j + 1, X2, s2, (os.set k (some b)), by omega, by simp, Lib.hid ((hS2.out.outside3 g1 hxa2 hgw).outside3 g2 hxb2 (by omega)), hIe, Lib.hid (hWn2.out.set k b), hxa2, hxb2⟩
                case measure => simp [intOf]; omega
              · have hv1' : (kv == 1) = false := by simpa using hv1
                by_cases hv2 : kv = 2
                · subst hv2
                  have hIe : Hid (YI s2 ks (decide (sy < j + 1)) (j + 1 - sy) (2 * (j + 1) + 1) (os.set k (some (b.take (b.length / 2))))) := Lib.hid (by
                    have h1 := hI2.out
                    rw [show decide (sy < j + 1) = true by simp; omega, show j + 1 - sy = m1 + 1 by have := hm1.out; omega]
                    simpa [wantS, hkg, show 2 * (j + 1) + 1 = 2 * j + 1 + 1 + 1 by omega] using h1)
                  go_wp2_with (first
                    | (go_at_call 13; (with_reducible refine HW.out.mono ?_); rintro e V2 ⟨rfl, X2, ha2, hm2⟩
                       obtain ⟨hWn2, hxa2, hxb2⟩ := hWV.out.mv hm2 hxa1 hxb1
                       have hS2 := Lib.hid ((hS1.out.more hV).step ha2 hm2)
                       obtain ⟨d1, d2⟩ := hWn2.cells hl3.out hk3
                       have f1 := hWn2.a.frozen k
                       have f2 := hWn2.b.frozen k
                       have cr2 := hS2.out.gr.cell hc
                       have sb := str_at qc hql.out (hqr.gr hS2.out.gr)
                       have hWn2 := Lib.hid hWn2
                       have cr3 := hS2.out.gr.cell hkc
                       unfold ow at d1
                       unfold oi at d2
                       clear HW ha2 hm2 hWV))
                  have hbh := half_len b qn hql.out
                  obtain ⟨q1, q2, q3⟩ := half_bounds qn qc hqle
                  obtain ⟨w1', w2', w3'⟩ := half_wraps qn hqn
                  have sh : (convert 31 9 (.slice qA (qn / 2) qc)).run Try.prog V2.drew = .ok (encStr (b.take (b.length / 2))) V2.drew := str_at qc hbh (by rw [List.map_take]; exact ((hqr.gr hS2.out.gr).take _).drew)
                  have cr2d : V2.drew.cell? (ad.add j) = some (.slice qA qn qc) := cr2
                  have d1d : V2.drew.cell? ⟨gw, k, none⟩ = _ := d1
                  have d2d : V2.drew.cell? ⟨gw + 1, k, none⟩ = _ := d2
                  have f1d : V2.drew.frozen? ⟨gw, k, none⟩ = false := f1
                  have f2d : V2.drew.frozen? ⟨gw + 1, k, none⟩ = false := f2
                  have hWn3 := Lib.hid (hWn2.out.gr (Gr.draw V2))
                  have hS3 := Lib.hid (hS2.out.more (Gr.draw V2))
                  clear cr2 d1 d2 f1 f2 sb hWn2 hS2
                  generalize b.take (b.length / 2) = bh at *
                  refine Vc.wp_region_facts ⟨fun W W' => W = W', fun _ _ _ => True, fun q W => W = st3 V2.drew (V2.drew.setCell ⟨gw, k, none⟩ (encStr bh)) ((V2.drew.setCell ⟨gw, k, none⟩ (encStr bh)).setCell ⟨gw + 1, k, none⟩ (.bool true)) q, [15, 17]⟩ (by kernel_rfl) (by kernel_rfl) (fun _ _ _ h h' => h ▸ h') rfl ?_
                  generalize V2.drew = V3 at *
                  repeat
                    refine Vc.Walk.pure (v := ?_) (fun _ => rfl) rfl (by first | exact Vc.GuardYes.no rfl | exact Vc.GuardYes.yes rfl rfl) rfl rfl ?_ ?_
                    rotate_left
                    · intro _ W hI
                      (clear hI)
                      go_simp
                      exact rfl
                  repeat
                    refine Vc.Walk.pure (v := ?_) (fun _ => rfl) rfl (by first | exact Vc.GuardYes.no rfl | exact Vc.GuardYes.yes rfl rfl) rfl rfl ?_ ?_
                    rotate_left
                    · intro _ W hI
                      (have hk0 := Nat.le_zero.1 (hI.le 0 15 rfl (by kernel_rfl)); have hg := hI.g; clear hI; rw [hk0] at hg; have hg : W = V3 := hg; subst hg)
                      go_simp
                      exact rfl
                  refine Vc.Walk.any (.is undef) trivial (.no rfl) ?_ ?_
                  · intro ρ _ W hI hf
                    obtain rfl := hI.eq 0 rfl
                    have hg : W = V3 := hI.g
                    subst hg
                    obtain ⟨hρ1, hρ2, _⟩ := hf
                    have e1 : ρ (.tmp 114) = .pointer (some ⟨gw, k, none⟩) := hρ1
                    have e2 : ρ (.tmp 113) = encStr bh := hρ2
                    clear hI hρ1 hρ2
                    go_simp
                    exact ⟨trivial, rfl⟩
                  repeat
                    refine Vc.Walk.pure (v := ?_) (fun _ => rfl) rfl (by first | exact Vc.GuardYes.no rfl | exact Vc.GuardYes.yes rfl rfl) rfl rfl ?_ ?_
                    rotate_left
                    · intro _ W hI
                      (clear hI)
                      go_simp
                      exact rfl
                  have hb' := hWn3.out.b.far (p := ⟨gw, k, none⟩) (by simp) (encStr bh)
                  have d2e := (hb'.cell k).trans ((hWn3.out.b.cell k).symm.trans d2d)
                  have f2e := hb'.frozen k
                  refine Vc.Walk.any (.is undef) trivial (.no rfl) ?_ ?_
                  · intro ρ _ W hI hf
                    obtain rfl := hI.eq 1 rfl
                    have hg : W = V3.setCell ⟨gw, k, none⟩ (encStr bh) := hI.g
                    subst hg
                    obtain ⟨hρ1, hρ2, _⟩ := hf
                    have e1 : ρ (.tmp 115) = .pointer (some ⟨gw + 1, k, none⟩) := hρ1
                    have e2 : ρ (.const (.bool true)) = .bool true := hρ2
                    clear hI hρ1 hρ2
                    go_simp
                    exact ⟨trivial, rfl⟩
                  intro W hW
                  have hW : W = (V3.setCell ⟨gw, k, none⟩ (encStr bh)).setCell ⟨gw + 1, k, none⟩ (.bool true) := hW
                  subst hW
                  simp only [List.reverse_cons, List.reverse_nil, List.nil_append, List.cons_append, Vc.finish, Act.put, List.setIfInBounds_toArray, List.set_cons_zero, List.set_cons_succ]
                  clear d1d d2d f1d f2d d2e f2e hb' cr2d sh
                  go_wp2_with fail
                  go_roundw
                  case rel =>
                    have g1 := only_set V3 gw k (encStr bh)
                    have g2 := only_set (V3.setCell ⟨gw, k, none⟩ (encStr bh)) (gw + 1) k (.bool true)
                    exact ⟨j + 1, X2, s2, (os.set k (some bh)), by omega, by simp, Lib.hid ((hS3.out.outside3 g1 hxa2 hgw).outside3 g2 hxb2 (by omega)), hIe, Lib.hid (hWn3.out.set k bh), hxa2, hxb2⟩
                  case measure => simp [intOf]; omega
                · have hv2' : (kv == 2) = false := by simpa using hv2
                  have hIe : Hid (YI s2 ks (decide (sy < j + 1)) (j + 1 - sy) (2 * (j + 1) + 1) os) := Lib.hid (by
                    have h1 := hI2.out
                    rw [show decide (sy < j + 1) = true by simp; omega, show j + 1 - sy = m1 + 1 by have := hm1.out; omega]
                    simpa [wantS, hkg, hv1, hv2, show 2 * (j + 1) + 1 = 2 * j + 1 + 1 + 1 by omega] using h1)
                  go_wp2_with (first
                    | (go_at_call 13; (with_reducible refine HW.out.mono ?_); rintro e V2 ⟨rfl, X2, ha2, hm2⟩
                       obtain ⟨hWn2, hxa2, hxb2⟩ := hWV.out.mv hm2 hxa1 hxb1
                       have hS2 := Lib.hid ((hS1.out.more hV).step ha2 hm2)
                       obtain ⟨d1, d2⟩ := hWn2.cells hl3.out hk3
                       have f1 := hWn2.a.frozen k
                       have f2 := hWn2.b.frozen k
                       have cr2 := hS2.out.gr.cell hc
                       have sb := str_at qc hql.out (hqr.gr hS2.out.gr)
                       have hWn2 := Lib.hid hWn2
                       have cr3 := hS2.out.gr.cell hkc
                       unfold ow at d1
                       unfold oi at d2
                       clear HW ha2 hm2 hWV))
                  go_roundw
                  case rel => exact ⟨j + 1, X2, s2, os, by omega, by simp, hS2, hIe, hWn2, hxa2, hxb2⟩
                  case measure => simp [intOf]; omega
            · have hm2l' : ¬ (m1 : Int) < (n2 : Int) := by omega
              have hkg : ks[m1]? = none := List.getElem?_eq_none (by have := hn2.out; omega)
              have hIe : Hid (YI s2 ks (decide (sy < j + 1)) (j + 1 - sy) (2 * (j + 1) + 1) os) := Lib.hid (by
                have h1 := hI2.out
                rw [show decide (sy < j + 1) = true by simp; omega, show j + 1 - sy = m1 + 1 by have := hm1.out; omega]
                simpa [wantS, hkg, show 2 * (j + 1) + 1 = 2 * j + 1 + 1 + 1 by omega] using h1)
              go_wp2_with (first
                | (go_at_call 13; (with_reducible refine HW.out.mono ?_); rintro e V2 ⟨rfl, X2, ha2, hm2⟩
                   obtain ⟨hWn2, hxa2, hxb2⟩ := hWV.out.mv hm2 hxa1 hxb1
                   have hS2 := Lib.hid ((hS1.out.more hV).step ha2 hm2)
                   obtain ⟨d1, d2⟩ := hWn2.cells hl3.out hk3
                   have f1 := hWn2.a.frozen k
                   have f2 := hWn2.b.frozen k
                   have cr2 := hS2.out.gr.cell hc
                   have sb := str_at qc hql.out (hqr.gr hS2.out.gr)
                   have hWn2 := Lib.hid hWn2
                   skip
                   unfold ow at d1
                   unfold oi at d2
                   clear HW ha2 hm2 hWV))
              go_roundw
              case rel => exact ⟨j + 1, X2, s2, os, by omega, by simp, hS2, hIe, hWn2, hxa2, hxb2⟩
              case measure => simp [intOf]; omega
          · have hj1n' : ¬ (j : Int) < (n1 : Int) := by omega
            obtain ⟨k, hk⟩ : ∃ k : Nat, j % 3 = k := ⟨_, rfl⟩
            have hk3 : k < 3 := by omega
            have hke : (j : Int) % 3 = (k : Int) := by omega
            have hkt : (j : Int).tmod 3 = (k : Int) := by rw [Int.tmod_eq_emod_of_nonneg (by omega)]; omega
            clear hk
            go_wp2_with (first
              | (go_at_call 19; (with_reducible refine HF.out.mono ?_); rintro e V1 ⟨rfl, X1, ha1, hm1'⟩
                 obtain ⟨hWn1, hxa1, hxb1⟩ := hWn.out.mv hm1' hxa hxb
                 have hS1 := Lib.hid (hS.out.step ha1 hm1')
                 have hWn1 := Lib.hid hWn1
                 have cr1 := hS1.out.gr.cell hc
                 skip
                 clear HF ha1 hm1'))
            have hsm1 : Sm s1 := ⟨Nat.le_trans hI1.out.ops (by omega), by rw [hI1.out.stop]; omega⟩
            obtain ⟨s2, he2, hI2⟩ := hI1.out.write hS1.out.ok hk3 hb200 (by omega)
            have HW := Lib.hid (fun (V : World) (hV : Gr V1 V) => write_any (hS1.out.more hV).at_ hsm1 (nm3 k) (by rw [nm3_len k hk3]; decide) qA qn qc b hql (hqr.gr ((hS1.out.more hV).gr)) (by omega))
            rw [he2] at HW
            have cq := Lib.hid (hS1.out.gr.cell hc)
            have hI2 := Lib.hid hI2
            have hl3 := Lib.hid hI1.out.len
            clear he2 hI1
            refine Vc.wp_region_split ⟨Gr, fun _ => Gr, fun _ V => Gr V1 V, []⟩ 9 [] (by kernel_rfl) (by kernel_rfl) (by kernel_rfl) (by decide) (by simp) (by simp) (by simp) (fun _ _ h => h.size) (fun _ _ _ h => h.size) (fun _ _ _ h h' => h'.trans' h) (Gr.draw _) ?_
            repeat
              refine Vc.Walk.pure (v := ?_) (fun _ => Gr.rfl' _) rfl (by first | exact Vc.GuardYes.no rfl | exact Vc.GuardYes.yes rfl rfl) rfl rfl ?_ ?_
              rotate_left
              · intro _ W hI
                (clear hI)
                go_simp
                exact rfl
            refine Vc.Walk.call (.fits (Vc.All fun v V => ∃ g, v = .slice (some ⟨g, 0, none⟩) 3 3 ∧ Row V g 9 (nmL3.map encStr))) (Vc.All.stable (fun u V V' hl hf => by obtain ⟨g, e, hR⟩ := hf; exact ⟨g, e, hR.gr hl⟩) (fun _ u V V' _ hl hf => by obtain ⟨g, e, hR⟩ := hf; exact ⟨g, e, hR.gr hl⟩)) (.no rfl) rfl rfl ?_ ?_
            · intro _ V hI
              clear hI
              go_simp
              exact ⟨⟨_, rfl, Row.new V _ (nmL3.map encStr)⟩, Gr.alloc1 _ _⟩
            repeat
              refine Vc.Walk.pure (v := ?_) (fun _ => Gr.rfl' _) rfl (by first | exact Vc.GuardYes.no rfl | exact Vc.GuardYes.yes rfl rfl) rfl rfl ?_ ?_
              rotate_left
              · intro _ W hI
                (clear hI)
                go_simp
                exact rfl
            refine Vc.Walk.any (.fits (Vc.All fun v V => ∃ g, v = .pointer (some ⟨g, k, none⟩) ∧ Row V g 9 (nmL3.map encStr))) (Vc.All.stable (fun u V V' hl hf => by obtain ⟨g, e, hR⟩ := hf; exact ⟨g, e, hR.gr hl⟩) (fun _ u V V' _ hl hf => by obtain ⟨g, e, hR⟩ := hf; exact ⟨g, e, hR.gr hl⟩)) (.no rfl) ?_ ?_
            · intro ρ _ V hI hf
              obtain ⟨⟨g, hρ1, hR⟩, hρ2, _⟩ := hf
              have e1 : ρ (.tmp 62) = .slice (some ⟨g, 0, none⟩) 3 3 := hρ1
              have e2 : ρ (.tmp 63) = .int .i64 k := hρ2
              have hk3' : (k : Int) < 3 := by omega
              clear hI hρ1 hρ2
              go_simp
              exact ⟨⟨_, rfl, hR⟩, Gr.rfl' _⟩
            refine Vc.Walk.any (.is (encStr (nm3 k))) trivial (.no rfl) ?_ ?_
            · intro ρ _ V hI hf
              obtain ⟨⟨g, hρ1, hR⟩, _⟩ := hf
              have e1 : ρ (.tmp 64) = .pointer (some ⟨g, k, none⟩) := hρ1
              have hcell : V.cell? ⟨g, k, none⟩ = some (encStr (nm3 k)) := (hR.cell k).trans (nmL3_at hk3)
              clear hI hρ1
              go_simp
              first | exact ⟨rfl, Gr.rfl' _⟩ | exact Gr.rfl' _
            repeat
              refine Vc.Walk.pure (v := ?_) (fun _ => Gr.rfl' _) rfl (by first | exact Vc.GuardYes.no rfl | exact Vc.GuardYes.yes rfl rfl) rfl rfl ?_ ?_
              rotate_left
              · intro _ W hI
                (have q := hI.g; clear hI; have q0 := q.cell cq.out; clear q)
                go_simp
                exact rfl
            intro V hV
            have hV : Gr V1 V := hV
            simp only [List.reverse_cons, List.reverse_nil, List.nil_append, List.cons_append, Vc.finish, Act.put, List.setIfInBounds_toArray, List.set_cons_zero, List.set_cons_succ]
            rintro u62 ⟨_, rfl, _⟩ u64 ⟨_, rfl, _⟩ _
            simp only [List.drop_succ_cons, List.drop_zero]
            replace HW := Lib.hid (HW.out V hV)
            have hWV := Lib.hid (hWn1.out.gr hV)
            have hk3' : (k : Int) < 3 := by omega
            have hge : (sy : Int) ≤ (j : Int) := by omega
            have hjm : (j : Int) - (sy : Int) = (m1 : Int) := by have := hm1.out; omega
            by_cases hm2l : m1 < n2
            · have hmk : m1 < ks.length := by have := hn2.out; omega
              have hm2l' : (m1 : Int) < (n2 : Int) := by omega
              obtain ⟨kb, ko, rfl, hkc⟩ := hr2.spot (by simp; omega)
              have hkc : w.cell? ⟨kb, ko + m1, none⟩ = some (.int .i64 ks[m1]) := hkc m1 _ (by rw [List.getElem?_map, List.getElem?_eq_getElem hmk]; rfl)
              have hkg : ks[m1]? = some ks[m1] := List.getElem?_eq_getElem hmk
              generalize ks[m1] = kv at *
              by_cases hv1 : kv = 1
              · subst hv1
                have hIe : Hid (YI s2 ks (decide (sy < j + 1)) (j + 1 - sy) (2 * (j + 1) + 1) (os.set k (some b))) := Lib.hid (by
                  have h1 := hI2.out
                  rw [show decide (sy < j + 1) = true by simp; omega, show j + 1 - sy = m1 + 1 by have := hm1.out; omega]
                  simpa [wantS, hkg, show 2 * (j + 1) + 1 = 2 * j + 1 + 1 + 1 by omega] using h1)
                go_wp2_with (first
                  | (go_at_call 13; (with_reducible refine HW.out.mono ?_); rintro e V2 ⟨rfl, X2, ha2, hm2⟩
                     obtain ⟨hWn2, hxa2, hxb2⟩ := hWV.out.mv hm2 hxa1 hxb1
                     have hS2 := Lib.hid ((hS1.out.more hV).step ha2 hm2)
                     obtain ⟨d1, d2⟩ := hWn2.cells hl3.out hk3
                     have f1 := hWn2.a.frozen k
                     have f2 := hWn2.b.frozen k
                     have cr2 := hS2.out.gr.cell hc
                     have sb := str_at qc hql.out (hqr.gr hS2.out.gr)
                     have hWn2 := Lib.hid hWn2
                     have cr3 := hS2.out.gr.cell hkc
                     unfold ow at d1
                     unfold oi at d2
                     clear HW ha2 hm2 hWV))
                go_roundw
                case rel =>
                  have g1 := only_set V2 gw k (encStr b)
                  have g2 := only_set (V2.setCell ⟨gw, k, none⟩ (encStr b)) (gw + 1) k (.bool true)
                  exact ⟨j + 1, X2, s2, (os.set k (some b)), by omega, by simp, Lib.hid ((hS2.out.outside3 g1 hxa2 hgw).outside3 g2 hxb2 (by omega)), hIe, Lib.hid (hWn2.out.set k b), hxa2, hxb2⟩
                case measure => simp [intOf]; omega
              · have hv1' : (kv == 1) = false := by simpa using hv1
                by_cases hv2 : kv = 2
                · subst hv2
                  have hIe : Hid (YI s2 ks (decide (sy < j + 1)) (j + 1 - sy) (2 * (j + 1) + 1) (os.set k (some (b.take (b.length / 2))))) := Lib.hid (by
                    have h1 := hI2.out
                    rw [show decide (sy < j + 1) = true by simp; omega, show j + 1 - sy = m1 + 1 by have := hm1.out; omega]
                    simpa [wantS, hkg, show 2 * (j + 1) + 1 = 2 * j + 1 + 1 + 1 by omega] using h1)
                  go_wp2_with (first
                    | (go_at_call 13; (with_reducible refine HW.out.mono ?_); rintro e V2 ⟨rfl, X2, ha2, hm2⟩
                       obtain ⟨hWn2, hxa2, hxb2⟩ := hWV.out.mv hm2 hxa1 hxb1
                       have hS2 := Lib.hid ((hS1.out.more hV).step ha2 hm2)
                       obtain ⟨d1, d2⟩ := hWn2.cells hl3.out hk3
                       have f1 := hWn2.a.frozen k
                       have f2 := hWn2.b.frozen k
                       have cr2 := hS2.out.gr.cell hc
                       have sb := str_at qc hql.out (hqr.gr hS2.out.gr)
                       have hWn2 := Lib.hid hWn2
                       have cr3 := hS2.out.gr.cell hkc
                       unfold ow at d1
                       unfold oi at d2
                       clear HW ha2 hm2 hWV))
                  have hbh := half_len b qn hql.out
                  obtain ⟨q1, q2, q3⟩ := half_bounds qn qc hqle
                  obtain ⟨w1', w2', w3'⟩ := half_wraps qn hqn
                  have sh : (convert 31 9 (.slice qA (qn / 2) qc)).run Try.prog V2.drew = .ok (encStr (b.take (b.length / 2))) V2.drew := str_at qc hbh (by rw [List.map_take]; exact ((hqr.gr hS2.out.gr).take _).drew)
                  have cr2d : V2.drew.cell? (ad.add j) = some (.slice qA qn qc) := cr2
                  have d1d : V2.drew.cell? ⟨gw, k, none⟩ = _ := d1
                  have d2d : V2.drew.cell? ⟨gw + 1, k, none⟩ = _ := d2
                  have f1d : V2.drew.frozen? ⟨gw, k, none⟩ = false := f1
                  have f2d : V2.drew.frozen? ⟨gw + 1, k, none⟩ = false := f2
                  have hWn3 := Lib.hid (hWn2.out.gr (Gr.draw V2))
                  have hS3 := Lib.hid (hS2.out.more (Gr.draw V2))
                  clear cr2 d1 d2 f1 f2 sb hWn2 hS2
                  generalize b.take (b.length / 2) = bh at *
                  refine Vc.wp_region_facts ⟨fun W W' => W = W', fun _ _ _ => True, fun q W => W = st3 V2.drew (V2.drew.setCell ⟨gw, k, none⟩ (encStr bh)) ((V2.drew.setCell ⟨gw, k, none⟩ (encStr bh)).setCell ⟨gw + 1, k, none⟩ (.bool true)) q, [15, 17]⟩ (by kernel_rfl) (by kernel_rfl) (fun _ _ _ h h' => h ▸ h') rfl ?_
                  generalize V2.drew = V3 at *
                  repeat
                    refine Vc.Walk.pure (v := ?_) (fun _ => rfl) rfl (by first | exact Vc.GuardYes.no rfl | exact Vc.GuardYes.yes rfl rfl) rfl rfl ?_ ?_
                    rotate_left
                    · intro _ W hI
                      (clear hI)
                      go_simp
                      exact rfl
                  repeat
                    refine Vc.Walk.pure (v := ?_) (fun _ => rfl) rfl (by first | exact Vc.GuardYes.no rfl | exact Vc.GuardYes.yes rfl rfl) rfl rfl ?_ ?_
                    rotate_left
                    · intro _ W hI
                      (have hk0 := Nat.le_zero.1 (hI.le 0 15 rfl (by kernel_rfl)); have hg := hI.g; clear hI; rw [hk0] at hg; have hg : W = V3 := hg; subst hg)
                      go_simp
                      exact rfl
                  refine Vc.Walk.any (.is undef) trivial (.no rfl) ?_ ?_
                  · intro ρ _ W hI hf
                    obtain rfl := hI.eq 0 rfl
                    have hg : W = V3 := hI.g
                    subst hg
                    obtain ⟨hρ1, hρ2, _⟩ := hf
                    have e1 : ρ (.tmp 114) = .pointer (some ⟨gw, k, none⟩) := hρ1
                    have e2 : ρ (.tmp 113) = encStr bh := hρ2
                    clear hI hρ1 hρ2
                    go_simp
                    exact ⟨trivial, rfl⟩
                  repeat
                    refine Vc.Walk.pure (v := ?_) (fun _ => rfl) rfl (by first | exact Vc.GuardYes.no rfl | exact Vc.GuardYes.yes rfl rfl) rfl rfl ?_ ?_
                    rotate_left
                    · intro _ W hI
                      (clear hI)
                      go_simp
                      exact rfl
                  have hb' := hWn3.out.b.far (p := ⟨gw, k, none⟩) (by simp) (encStr bh)
                  have d2e := (hb'.cell k).trans ((hWn3.out.b.cell k).symm.trans d2d)
                  have f2e := hb'.frozen k
                  refine Vc.Walk.any (.is undef) trivial (.no rfl) ?_ ?_
                  · intro ρ _ W hI hf
                    obtain rfl := hI.eq 1 rfl
                    have hg : W = V3.setCell ⟨gw, k, none⟩ (encStr bh) := hI.g
                    subst hg
                    obtain ⟨hρ1, hρ2, _⟩ := hf
                    have e1 : ρ (.tmp 115) = .pointer (some ⟨gw + 1, k, none⟩) := hρ1
                    have e2 : ρ (.const (.bool true)) = .bool true := hρ2
                    clear hI hρ1 hρ2
                    go_simp
                    exact ⟨trivial, rfl⟩
                  intro W hW
                  have hW : W = (V3.setCell ⟨gw, k, none⟩ (encStr bh)).setCell ⟨gw + 1, k, none⟩ (.bool true) := hW
                  subst hW
                  simp only [List.reverse_cons, List.reverse_nil, List.nil_append, List.cons_append, Vc.finish, Act.put, List.setIfInBounds_toArray, List.set_cons_zero, List.set_cons_succ]
                  clear d1d d2d f1d f2d d2e f2e hb' cr2d sh
                  go_wp2_with fail
                  go_roundw
                  case rel =>
                    have g1 := only_set V3 gw k (encStr bh)
                    have g2 := only_set (V3.setCell ⟨gw, k, none⟩ (encStr bh)) (gw + 1) k (.bool true)
                    exact ⟨j + 1, X2, s2, (os.set k (some bh)), by omega, by simp, Lib.hid ((hS3.out.outside3 g1 hxa2 hgw).outside3 g2 hxb2 (by omega)), hIe, Lib.hid (hWn3.out.set k bh), hxa2, hxb2⟩
                  case measure => simp [intOf]; omega
                · have hv2' : (kv == 2) = false := by simpa using hv2
                  have hIe : Hid (YI s2 ks (decide (sy < j + 1)) (j + 1 - sy) (2 * (j + 1) + 1) os) := Lib.hid (by
                    have h1 := hI2.out
                    rw [show decide (sy < j + 1) = true by simp; omega, show j + 1 - sy = m1 + 1 by have := hm1.out; omega]
                    simpa [wantS, hkg, hv1, hv2, show 2 * (j + 1) + 1 = 2 * j + 1 + 1 + 1 by omega] using h1)
                  go_wp2_with (first
                    | (go_at_call 13; (with_reducible refine HW.out.mono ?_); rintro e V2 ⟨rfl, X2, ha2, hm2⟩
                       obtain ⟨hWn2, hxa2, hxb2⟩ := hWV.out.mv hm2 hxa1 hxb1
                       have hS2 := Lib.hid ((hS1.out.more hV).step ha2 hm2)
                       obtain ⟨d1, d2⟩ := hWn2.cells hl3.out hk3
                       have f1 := hWn2.a.frozen k
                       have f2 := hWn2.b.frozen k
                       have cr2 := hS2.out.gr.cell hc
                       have sb := str_at qc hql.out (hqr.gr hS2.out.gr)
                       have hWn2 := Lib.hid hWn2
                       have cr3 := hS2.out.gr.cell hkc
                       unfold ow at d1
                       unfold oi at d2
                       clear HW ha2 hm2 hWV))
                  go_roundw
                  case rel => exact ⟨j + 1, X2, s2, os, by omega, by simp, hS2, hIe, hWn2, hxa2, hxb2⟩
                  case measure => simp [intOf]; omega
            · have hm2l' : ¬ (m1 : Int) < (n2 : Int) := by omega
              have hkg : ks[m1]? = none := List.getElem?_eq_none (by have := hn2.out; omega)
              have hIe : Hid (YI s2 ks (decide (sy < j + 1)) (j + 1 - sy) (2 * (j + 1) + 1) os) := Lib.hid (by
                have h1 := hI2.out
                rw [show decide (sy < j + 1) = true by simp; omega, show j + 1 - sy = m1 + 1 by have := hm1.out; omega]
                simpa [wantS, hkg, show 2 * (j + 1) + 1 = 2 * j + 1 + 1 + 1 by omega] using h1)
              go_wp2_with (first
                | (go_at_call 13; (with_reducible refine HW.out.mono ?_); rintro e V2 ⟨rfl, X2, ha2, hm2⟩
                   obtain ⟨hWn2, hxa2, hxb2⟩ := hWV.out.mv hm2 hxa1 hxb1
                   have hS2 := Lib.hid ((hS1.out.more hV).step ha2 hm2)
                   obtain ⟨d1, d2⟩ := hWn2.cells hl3.out hk3
                   have f1 := hWn2.a.frozen k
                   have f2 := hWn2.b.frozen k
                   have cr2 := hS2.out.gr.cell hc
                   have sb := str_at qc hql.out (hqr.gr hS2.out.gr)
                   have hWn2 := Lib.hid hWn2
                   skip
                   unfold ow at d1
                   unfold oi at d2
                   clear HW ha2 hm2 hWV))
              go_roundw
              case rel => exact ⟨j + 1, X2, s2, os, by omega, by simp, hS2, hIe, hWn2, hxa2, hxb2⟩
              case measure => simp [intOf]; omega
        · have hjs' : ((j : Int) == (sy : Int)) = false := by simp; omega
          obtain ⟨m1, hm1⟩ : ∃ m, Hid (m = j - sy) := ⟨_, Lib.hid rfl⟩
          have hI1 : Hid (YI s ks true m1 (2 * j + 1) os) := Lib.hid (by have h1 := hI.out; rw [show decide (sy < j) = true by simp; omega, ← hm1.out] at h1; exact h1)
          by_cases hj1n : j < n1
          · have hjn : j < ns.length := by have := hn1.out; omega
            have hj1n' : (j : Int) < (n1 : Int) := by omega
            obtain ⟨nb, no, rfl, hnx⟩ := hr1.spot (by simp; omega)
            have hnx : w.cell? ⟨nb, no + j, none⟩ = some (.int .i64 ns[j]) := hnx j _ (by rw [List.getElem?_map, List.getElem?_eq_getElem hjn]; rfl)
            have hnb := hns ns[j] (List.getElem_mem hjn)
            generalize ns[j] = nv at *
            have HWn := Lib.hid (fun W => within1_any nv 3 W hnb.1 hnb.2 (by decide) (by decide))
            have hk0 := Int.emod_nonneg nv (show (3 : Int) ≠ 0 by decide)
            have hk1 := Int.emod_lt_of_pos nv (show (0 : Int) < 3 by decide)
            obtain ⟨k, hk⟩ : ∃ k : Nat, nv % 3 = (k : Int) := ⟨(nv % 3).toNat, by omega⟩
            rw [hk] at HWn hk0 hk1
            have hk3 : k < 3 := by omega
            clear hk hk0 hk1
            have cr4 := hS.out.gr.cell hnx
            go_wp2_with (first
              | (go_at_call 11; (with_reducible refine (HWn.out _).mono ?_); rintro e V9 ⟨rfl, rfl⟩; clear HWn))
            have hS1 := hS
            have hWn1 := hWn
            have hxa1 := hxa
            have hxb1 := hxb
            have hsm1 : Sm s := ⟨Nat.le_trans hI1.out.ops (by omega), by rw [hI1.out.stop]; omega⟩
            obtain ⟨s2, he2, hI2⟩ := hI1.out.write hS1.out.ok hk3 hb200 (by omega)
            have HW := Lib.hid (fun (V : World) (hV : Gr wr V) => write_any (hS1.out.more hV).at_ hsm1 (nm3 k) (by rw [nm3_len k hk3]; decide) qA qn qc b hql (hqr.gr ((hS1.out.more hV).gr)) (by omega))
            rw [he2] at HW
            have cq := Lib.hid (hS1.out.gr.cell hc)
            have hI2 := Lib.hid hI2
            have hl3 := Lib.hid hI1.out.len
            clear he2 hI1
            refine Vc.wp_region_split ⟨Gr, fun _ => Gr, fun _ V => Gr wr V, []⟩ 9 [] (by kernel_rfl) (by kernel_rfl) (by kernel_rfl) (by decide) (by simp) (by simp) (by simp) (fun _ _ h => h.size) (fun _ _ _ h => h.size) (fun _ _ _ h h' => h'.trans' h) (Gr.draw _) ?_
            repeat
              refine Vc.Walk.pure (v := ?_) (fun _ => Gr.rfl' _) rfl (by first | exact Vc.GuardYes.no rfl | exact Vc.GuardYes.yes rfl rfl) rfl rfl ?_ ?_
              rotate_left
              · intro _ W hI
                (clear hI)
                go_simp
                exact rfl
            refine Vc.Walk.call (.fits (Vc.All fun v V => ∃ g, v = .slice (some ⟨g, 0, none⟩) 3 3 ∧ Row V g 9 (nmL3.map encStr))) (Vc.All.stable (fun u V V' hl hf => by obtain ⟨g, e, hR⟩ := hf; exact ⟨g, e, hR.gr hl⟩) (fun _ u V V' _ hl hf => by obtain ⟨g, e, hR⟩ := hf; exact ⟨g, e, hR.gr hl⟩)) (.no rfl) rfl rfl ?_ ?_
            · intro _ V hI
              clear hI
              go_simp
              exact ⟨⟨_, rfl, Row.new V _ (nmL3.map encStr)⟩, Gr.alloc1 _ _⟩
            repeat
              refine Vc.Walk.pure (v := ?_) (fun _ => Gr.rfl' _) rfl (by first | exact Vc.GuardYes.no rfl | exact Vc.GuardYes.yes rfl rfl) rfl rfl ?_ ?_
              rotate_left
              · intro _ W hI
                (clear hI)
                go_simp
                exact rfl
            refine Vc.Walk.any (.fits (Vc.All fun v V => ∃ g, v = .pointer (some ⟨g, k, none⟩) ∧ Row V g 9 (nmL3.map encStr))) (Vc.All.stable (fun u V V' hl hf => by obtain ⟨g, e, hR⟩ := hf; exact ⟨g, e, hR.gr hl⟩) (fun _ u V V' _ hl hf => by obtain ⟨g, e, hR⟩ := hf; exact ⟨g, e, hR.gr hl⟩)) (.no rfl) ?_ ?_
            · intro ρ _ V hI hf
              obtain ⟨⟨g, hρ1, hR⟩, hρ2, _⟩ := hf
              have e1 : ρ (.tmp 62) = .slice (some ⟨g, 0, none⟩) 3 3 := hρ1
              have e2 : ρ (.tmp 63) = .int .i64 k := hρ2
              have hk3' : (k : Int) < 3 := by omega
              clear hI hρ1 hρ2
              go_simp
              exact ⟨⟨_, rfl, hR⟩, Gr.rfl' _⟩
            refine Vc.Walk.any (.is (encStr (nm3 k))) trivial (.no rfl) ?_ ?_
            · intro ρ _ V hI hf
              obtain ⟨⟨g, hρ1, hR⟩, _⟩ := hf
              have e1 : ρ (.tmp 64) = .pointer (some ⟨g, k, none⟩) := hρ1
              have hcell : V.cell? ⟨g, k, none⟩ = some (encStr (nm3 k)) := (hR.cell k).trans (nmL3_at hk3)
              clear hI hρ1
              go_simp
              first | exact ⟨rfl, Gr.rfl' _⟩ | exact Gr.rfl' _
            repeat
              refine Vc.Walk.pure (v := ?_) (fun _ => Gr.rfl' _) rfl (by first | exact Vc.GuardYes.no rfl | exact Vc.GuardYes.yes rfl rfl) rfl rfl ?_ ?_
              rotate_left
              · intro _ W hI
                (have q := hI.g; clear hI; have q0 := q.cell cq.out; clear q)
                go_simp
                exact rfl
            intro V hV
            have hV : Gr wr V := hV
            simp only [List.reverse_cons, List.reverse_nil, List.nil_append, List.cons_append, Vc.finish, Act.put, List.setIfInBounds_toArray, List.set_cons_zero, List.set_cons_succ]
            rintro u62 ⟨_, rfl, _⟩ u64 ⟨_, rfl, _⟩ _
            simp only [List.drop_succ_cons, List.drop_zero]
            replace HW := Lib.hid (HW.out V hV)
            have hWV := Lib.hid (hWn1.out.gr hV)
            have hk3' : (k : Int) < 3 := by omega
            have hge : (sy : Int) ≤ (j : Int) := by omega
            have hjm : (j : Int) - (sy : Int) = (m1 : Int) := by have := hm1.out; omega
            by_cases hm2l : m1 < n2
            · have hmk : m1 < ks.length := by have := hn2.out; omega
              have hm2l' : (m1 : Int) < (n2 : Int) := by omega
              obtain ⟨kb, ko, rfl, hkc⟩ := hr2.spot (by simp; omega)
              have hkc : w.cell? ⟨kb, ko + m1, none⟩ = some (.int .i64 ks[m1]) := hkc m1 _ (by rw [List.getElem?_map, List.getElem?_eq_getElem hmk]; rfl)
              have hkg : ks[m1]? = some ks[m1] := List.getElem?_eq_getElem hmk
              generalize ks[m1] = kv at *
              by_cases hv1 : kv = 1
              · subst hv1
                have hIe : Hid (YI s2 ks (decide (sy < j + 1)) (j + 1 - sy) (2 * (j + 1) + 1) (os.set k (some b))) := Lib.hid (by
                  have h1 := hI2.out.more
                  rw [show decide (sy < j + 1) = true by simp; omega, show j + 1 - sy = m1 + 1 by have := hm1.out; omega]
                  simpa [wantS, hkg, show 2 * (j + 1) + 1 = 2 * j + 1 + 1 + 1 by omega] using h1)
                go_wp2_with (first
                  | (go_at_call 13; (with_reducible refine HW.out.mono ?_); rintro e V2 ⟨rfl, X2, ha2, hm2⟩
                     obtain ⟨hWn2, hxa2, hxb2⟩ := hWV.out.mv hm2 hxa1 hxb1
                     have hS2 := Lib.hid ((hS1.out.more hV).step ha2 hm2)
                     obtain ⟨d1, d2⟩ := hWn2.cells hl3.out hk3
                     have f1 := hWn2.a.frozen k
                     have f2 := hWn2.b.frozen k
                     have cr2 := hS2.out.gr.cell hc
                     have sb := str_at qc hql.out (hqr.gr hS2.out.gr)
                     have hWn2 := Lib.hid hWn2
                     have cr3 := hS2.out.gr.cell hkc
                     unfold ow at d1
                     unfold oi at d2
                     clear HW ha2 hm2 hWV))
                go_roundw
                case rel =>
                  have g1 := only_set V2 gw k (encStr b)
                  have g2 := only_set (V2.setCell ⟨gw, k, none⟩ (encStr b)) (gw + 1) k (.bool true)
                  exact ⟨j + 1, X2, s2, (os.set k (some b)), by omega, by simp, Lib.hid ((hS2.out.outside3 g1 hxa2 hgw).outside3 g2 hxb2 (by omega)), hIe, Lib.hid (hWn2.out.set k b), hxa2, hxb2⟩
                case measure => simp [intOf]; omega
              · have hv1' : (kv == 1) = false := by simpa using hv1
                by_cases hv2 : kv = 2
                · subst hv2
                  have hIe : Hid (YI s2 ks (decide (sy < j + 1)) (j + 1 - sy) (2 * (j + 1) + 1) (os.set k (some (b.take (b.length / 2))))) := Lib.hid (by
                    have h1 := hI2.out.more
                    rw [show decide (sy < j + 1) = true by simp; omega, show j + 1 - sy = m1 + 1 by have := hm1.out; omega]
                    simpa [wantS, hkg, show 2 * (j + 1) + 1 = 2 * j + 1 + 1 + 1 by omega] using h1)
                  go_wp2_with (first
                    | (go_at_call 13; (with_reducible refine HW.out.mono ?_); rintro e V2 ⟨rfl, X2, ha2, hm2⟩
                       obtain ⟨hWn2, hxa2, hxb2⟩ := hWV.out.mv hm2 hxa1 hxb1
                       have hS2 := Lib.hid ((hS1.out.more hV).step ha2 hm2)
                       obtain ⟨d1, d2⟩ := hWn2.cells hl3.out hk3
                       have f1 := hWn2.a.frozen k
                       have f2 := hWn2.b.frozen k
                       have cr2 := hS2.out.gr.cell hc
                       have sb := str_at qc hql.out (hqr.gr hS2.out.gr)
                       have hWn2 := Lib.hid hWn2
                       have cr3 := hS2.out.gr.cell hkc
                       unfold ow at d1
                       unfold oi at d2
                       clear HW ha2 hm2 hWV))
                  have hbh := half_len b qn hql.out
                  obtain ⟨q1, q2, q3⟩ := half_bounds qn qc hqle
                  obtain ⟨w1', w2', w3'⟩ := half_wraps qn hqn
                  have sh : (convert 31 9 (.slice qA (qn / 2) qc)).run Try.prog V2.drew = .ok (encStr (b.take (b.length / 2))) V2.drew := str_at qc hbh (by rw [List.map_take]; exact ((hqr.gr hS2.out.gr).take _).drew)
                  have cr2d : V2.drew.cell? (ad.add j) = some (.slice qA qn qc) := cr2
                  have d1d : V2.drew.cell? ⟨gw, k, none⟩ = _ := d1
                  have d2d : V2.drew.cell? ⟨gw + 1, k, none⟩ = _ := d2
                  have f1d : V2.drew.frozen? ⟨gw, k, none⟩ = false := f1
                  have f2d : V2.drew.frozen? ⟨gw + 1, k, none⟩ = false := f2
                  have hWn3 := Lib.hid (hWn2.out.gr (Gr.draw V2))
                  have hS3 := Lib.hid (hS2.out.more (Gr.draw V2))
                  clear cr2 d1 d2 f1 f2 sb hWn2 hS2
                  generalize b.take (b.length / 2) = bh at *
                  refine Vc.wp_region_facts ⟨fun W W' => W = W', fun _ _ _ => True, fun q W => W = st3 V2.drew (V2.drew.setCell ⟨gw, k, none⟩ (encStr bh)) ((V2.drew.setCell ⟨gw, k, none⟩ (encStr bh)).setCell ⟨gw + 1, k, none⟩ (.bool true)) q, [15, 17]⟩ (by kernel_rfl) (by kernel_rfl) (fun _ _ _ h h' => h ▸ h') rfl ?_
                  generalize V2.drew = V3 at *
                  repeat
                    refine Vc.Walk.pure (v := ?_) (fun _ => rfl) rfl (by first | exact Vc.GuardYes.no rfl | exact Vc.GuardYes.yes rfl rfl) rfl rfl ?_ ?_
                    rotate_left
                    · intro _ W hI
                      (clear hI)
                      go_simp
                      exact rfl
                  repeat
                    refine Vc.Walk.pure (v := ?_) (fun _ => rfl) rfl (by first | exact Vc.GuardYes.no rfl | exact Vc.GuardYes.yes rfl rfl) rfl rfl ?_ ?_
                    rotate_left
                    · intro _ W hI
                      (have hk0 := Nat.le_zero.1 (hI.le 0 15 rfl (by kernel_rfl)); have hg := hI.g; clear hI; rw [hk0] at hg; have hg : W = V3 := hg; subst hg)
                      go_simp
                      exact rfl
                  refine Vc.Walk.any (.is undef) trivial (.no rfl) ?_ ?_
                  · intro ρ _ W hI hf
                    obtain rfl := hI.eq 0 rfl
                    have hg : W = V3 := hI.g
                    subst hg
                    obtain ⟨hρ1, hρ2, _⟩ := hf
                    have e1 : ρ (.tmp 114) = .pointer (some ⟨gw, k, none⟩) := hρ1
                    have e2 : ρ (.tmp 113) = encStr bh := hρ2
                    clear hI hρ1 hρ2
                    go_simp
                    exact ⟨trivial, rfl⟩
                  repeat
                    refine Vc.Walk.pure (v := ?_) (fun _ => rfl) rfl (by first | exact Vc.GuardYes.no rfl | exact Vc.GuardYes.yes rfl rfl) rfl rfl ?_ ?_
                    rotate_left
                    · intro _ W hI
                      (clear hI)
                      go_simp
                      exact rfl
                  have hb' := hWn3.out.b.far (p := ⟨gw, k, none⟩) (by simp) (encStr bh)
                  have d2e := (hb'.cell k).trans ((hWn3.out.b.cell k).symm.trans d2d)
                  have f2e := hb'.frozen k
                  refine Vc.Walk.any (.is undef) trivial (.no rfl) ?_ ?_
                  · intro ρ _ W hI hf
                    obtain rfl := hI.eq 1 rfl
                    have hg : W = V3.setCell ⟨gw, k, none⟩ (encStr bh) := hI.g
                    subst hg
                    obtain ⟨hρ1, hρ2, _⟩ := hf
                    have e1 : ρ (.tmp 115) = .pointer (some ⟨gw + 1, k, none⟩) := hρ1
                    have e2 : ρ (.const (.bool true)) = .bool true := hρ2
                    clear hI hρ1 hρ2
                    go_simp
                    exact ⟨trivial, rfl⟩
                  intro W hW
                  have hW : W = (V3.setCell ⟨gw, k, none⟩ (encStr bh)).setCell ⟨gw + 1, k, none⟩ (.bool true) := hW
                  subst hW
                  simp only [List.reverse_cons, List.reverse_nil, List.nil_append, List.cons_append, Vc.finish, Act.put, List.setIfInBounds_toArray, List.set_cons_zero, List.set_cons_succ]
                  clear d1d d2d f1d f2d d2e f2e hb' cr2d sh
                  go_wp2_with fail
                  go_roundw
                  case rel =>
                    have g1 := only_set V3 gw k (encStr bh)
                    have g2 := only_set (V3.setCell ⟨gw, k, none⟩ (encStr bh)) (gw + 1) k (.bool true)
                    exact ⟨j + 1, X2, s2, (os.set k (some bh)), by omega, by simp, Lib.hid ((hS3.out.outside3 g1 hxa2 hgw).outside3 g2 hxb2 (by omega)), hIe, Lib.hid (hWn3.out.set k bh), hxa2, hxb2⟩
                  case measure => simp [intOf]; omega
                · have hv2' : (kv == 2) = false := by simpa using hv2
                  have hIe : Hid (YI s2 ks (decide (sy < j + 1)) (j + 1 - sy) (2 * (j + 1) + 1) os) := Lib.hid (by
                    have h1 := hI2.out.more
                    rw [show decide (sy < j + 1) = true by simp; omega, show j + 1 - sy = m1 + 1 by have := hm1.out; omega]
                    simpa [wantS, hkg, hv1, hv2, show 2 * (j + 1) + 1 = 2 * j + 1 + 1 + 1 by omega] using h1)
                  go_wp2_with (first
                    | (go_at_call 13; (with_reducible refine HW.out.mono ?_); rintro e V2 ⟨rfl, X2, ha2, hm2⟩
                       obtain ⟨hWn2, hxa2, hxb2⟩ := hWV.out.mv hm2 hxa1 hxb1
                       have hS2 := Lib.hid ((hS1.out.more hV).step ha2 hm2)
                       obtain ⟨d1, d2⟩ := hWn2.cells hl3.out hk3
                       have f1 := hWn2.a.frozen k
                       have f2 := hWn2.b.frozen k
                       have cr2 := hS2.out.gr.cell hc
                       have sb := str_at qc hql.out (hqr.gr hS2.out.gr)
                       have hWn2 := Lib.hid hWn2
                       have cr3 := hS2.out.gr.cell hkc
                       unfold ow at d1
                       unfold oi at d2
                       clear HW ha2 hm2 hWV))
                  go_roundw
                  case rel => exact ⟨j + 1, X2, s2, os, by omega, by simp, hS2, hIe, hWn2, hxa2, hxb2⟩
                  case measure => simp [intOf]; omega
            · have hm2l' : ¬ (m1 : Int) < (n2 : Int) := by omega
              have hkg : ks[m1]? = none := List.getElem?_eq_none (by have := hn2.out; omega)
              have hIe : Hid (YI s2 ks (decide (sy < j + 1)) (j + 1 - sy) (2 * (j + 1) + 1) os) := Lib.hid (by
                have h1 := hI2.out.more
                rw [show decide (sy < j + 1) = true by simp; omega, show j + 1 - sy = m1 + 1 by have := hm1.out; omega]
                simpa [wantS, hkg, show 2 * (j + 1) + 1 = 2 * j + 1 + 1 + 1 by omega] using h1)
              go_wp2_with (first
                | (go_at_call 13; (with_reducible refine HW.out.mono ?_); rintro e V2 ⟨rfl, X2, ha2, hm2⟩
                   obtain ⟨hWn2, hxa2, hxb2⟩ := hWV.out.mv hm2 hxa1 hxb1
                   have hS2 := Lib.hid ((hS1.out.more hV).step ha2 hm2)
                   obtain ⟨d1, d2⟩ := hWn2.cells hl3.out hk3
                   have f1 := hWn2.a.frozen k
                   have f2 := hWn2.b.frozen k
                   have cr2 := hS2.out.gr.cell hc
                   have sb := str_at qc hql.out (hqr.gr hS2.out.gr)
                   have hWn2 := Lib.hid hWn2
                   skip
                   unfold ow at d1
                   unfold oi at d2
                   clear HW ha2 hm2 hWV))
              go_roundw
              case rel => exact ⟨j + 1, X2, s2, os, by omega, by simp, hS2, hIe, hWn2, hxa2, hxb2⟩
              case measure => simp [intOf]; omega
          · have hj1n' : ¬ (j : Int) < (n1 : Int) := by omega
            obtain ⟨k, hk⟩ : ∃ k : Nat, j % 3 = k := ⟨_, rfl⟩
            have hk3 : k < 3 := by omega
            have hke : (j : Int) % 3 = (k : Int) := by omega
            have hkt : (j : Int).tmod 3 = (k : Int) := by rw [Int.tmod_eq_emod_of_nonneg (by omega)]; omega
            clear hk
            go_wp2_with fail
            have hS1 := hS
            have hWn1 := hWn
            have hxa1 := hxa
            have hxb1 := hxb
            have hsm1 : Sm s := ⟨Nat.le_trans hI1.out.ops (by omega), by rw [hI1.out.stop]; omega⟩
            obtain ⟨s2, he2, hI2⟩ := hI1.out.write hS1.out.ok hk3 hb200 (by omega)
            have HW := Lib.hid (fun (V : World) (hV : Gr wr V) => write_any (hS1.out.more hV).at_ hsm1 (nm3 k) (by rw [nm3_len k hk3]; decide) qA qn qc b hql (hqr.gr ((hS1.out.more hV).gr)) (by omega))
            rw [he2] at HW
            have cq := Lib.hid (hS1.out.gr.cell hc)
            have hI2 := Lib.hid hI2
            have hl3 := Lib.hid hI1.out.len
            clear he2 hI1
            refine Vc.wp_region_split ⟨Gr, fun _ => Gr, fun _ V => Gr wr V, []⟩ 9 [] (by kernel_rfl) (by kernel_rfl) (by kernel_rfl) (by decide) (by simp) (by simp) (by simp) (fun _ _ h => h.size) (fun _ _ _ h => h.size) (fun _ _ _ h h' => h'.trans' h) (Gr.draw _) ?_
            repeat
              refine Vc.Walk.pure (v := ?_) (fun _ => Gr.rfl' _) rfl (by first | exact Vc.GuardYes.no rfl | exact Vc.GuardYes.yes rfl rfl) rfl rfl ?_ ?_
              rotate_left
              · intro _ W hI
                (clear hI)
                go_simp
                exact rfl
            refine Vc.Walk.call (.fits (Vc.All fun v V => ∃ g, v = .slice (some ⟨g, 0, none⟩) 3 3 ∧ Row V g 9 (nmL3.map encStr))) (Vc.All.stable (fun u V V' hl hf => by obtain ⟨g, e, hR⟩ := hf; exact ⟨g, e, hR.gr hl⟩) (fun _ u V V' _ hl hf => by obtain ⟨g, e, hR⟩ := hf; exact ⟨g, e, hR.gr hl⟩)) (.no rfl) rfl rfl ?_ ?_
            · intro _ V hI
              clear hI
              go_simp
              exact ⟨⟨_, rfl, Row.new V _ (nmL3.map encStr)⟩, Gr.alloc1 _ _⟩
            repeat
              refine Vc.Walk.pure (v := ?_) (fun _ => Gr.rfl' _) rfl (by first | exact Vc.GuardYes.no rfl | exact Vc.GuardYes.yes rfl rfl) rfl rfl ?_ ?_
              rotate_left
              · intro _ W hI
                (clear hI)
                go_simp
                exact rfl
            refine Vc.Walk.any (.fits (Vc.All fun v V => ∃ g, v = .pointer (some ⟨g, k, none⟩) ∧ Row V g 9 (nmL3.map encStr))) (Vc.All.stable (fun u V V' hl hf => by obtain ⟨g, e, hR⟩ := hf; exact ⟨g, e, hR.gr hl⟩) (fun _ u V V' _ hl hf => by obtain ⟨g, e, hR⟩ := hf; exact ⟨g, e, hR.gr hl⟩)) (.no rfl) ?_ ?_
            · intro ρ _ V hI hf
              obtain ⟨⟨g, hρ1, hR⟩, hρ2, _⟩ := hf
              have e1 : ρ (.tmp 62) = .slice (some ⟨g, 0, none⟩) 3 3 := hρ1
              have e2 : ρ (.tmp 63) = .int .i64 k := hρ2
              have hk3' : (k : Int) < 3 := by omega
              clear hI hρ1 hρ2
              go_simp
              exact ⟨⟨_, rfl, hR⟩, Gr.rfl' _⟩
            refine Vc.Walk.any (.is (encStr (nm3 k))) trivial (.no rfl) ?_ ?_
            · intro ρ _ V hI hf
              obtain ⟨⟨g, hρ1, hR⟩, _⟩ := hf
              have e1 : ρ (.tmp 64) = .pointer (some ⟨g, k, none⟩) := hρ1
              have hcell : V.cell? ⟨g, k, none⟩ = some (encStr (nm3 k)) := (hR.cell k).trans (nmL3_at hk3)
              clear hI hρ1
              go_simp
              first | exact ⟨rfl, Gr.rfl' _⟩ | exact Gr.rfl' _
            repeat
              refine Vc.Walk.pure (v := ?_) (fun _ => Gr.rfl' _) rfl (by first | exact Vc.GuardYes.no rfl | exact Vc.GuardYes.yes rfl rfl) rfl rfl ?_ ?_
              rotate_left
              · intro _ W hI
                (have q := hI.g; clear hI; have q0 := q.cell cq.out; clear q)
                go_simp
                exact rfl
            intro V hV
            have hV : Gr wr V := hV
            simp only [List.reverse_cons, List.reverse_nil, List.nil_append, List.cons_append, Vc.finish, Act.put, List.setIfInBounds_toArray, List.set_cons_zero, List.set_cons_succ]
            rintro u62 ⟨_, rfl, _⟩ u64 ⟨_, rfl, _⟩ _
            simp only [List.drop_succ_cons, List.drop_zero]
            replace HW := Lib.hid (HW.out V hV)
            have hWV := Lib.hid (hWn1.out.gr hV)
            have hk3' : (k : Int) < 3 := by omega
            have hge : (sy : Int) ≤ (j : Int) := by omega
            have hjm : (j : Int) - (sy : Int) = (m1 : Int) := by have := hm1.out; omega
            by_cases hm2l : m1 < n2
            · have hmk : m1 < ks.length := by have := hn2.out; omega
              have hm2l' : (m1 : Int) < (n2 : Int) := by omega
              obtain ⟨kb, ko, rfl, hkc⟩ := hr2.spot (by simp; omega)
              have hkc : w.cell? ⟨kb, ko + m1, none⟩ = some (.int .i64 ks[m1]) := hkc m1 _ (by rw [List.getElem?_map, List.getElem?_eq_getElem hmk]; rfl)
              have hkg : ks[m1]? = some ks[m1] := List.getElem?_eq_getElem hmk
              generalize ks[m1] = kv at *
              by_cases hv1 : kv = 1
              · subst hv1
                have hIe : Hid (YI s2 ks (decide (sy < j + 1)) (j + 1 - sy) (2 * (j + 1) + 1) (os.set k (some b))) := Lib.hid (by
                  have h1 := hI2.out.more
                  rw [show decide (sy < j + 1) = true by simp; omega, show j + 1 - sy = m1 + 1 by have := hm1.out; omega]
                  simpa [wantS, hkg, show 2 * (j + 1) + 1 = 2 * j + 1 + 1 + 1 by omega] using h1)
                go_wp2_with (first
                  | (go_at_call 13; (with_reducible refine HW.out.mono ?_); rintro e V2 ⟨rfl, X2, ha2, hm2⟩
                     obtain ⟨hWn2, hxa2, hxb2⟩ := hWV.out.mv hm2 hxa1 hxb1
                     have hS2 := Lib.hid ((hS1.out.more hV).step ha2 hm2)
                     obtain ⟨d1, d2⟩ := hWn2.cells hl3.out hk3
                     have f1 := hWn2.a.frozen k
                     have f2 := hWn2.b.frozen k
                     have cr2 := hS2.out.gr.cell hc
                     have sb := str_at qc hql.out (hqr.gr hS2.out.gr)
                     have hWn2 := Lib.hid hWn2
                     have cr3 := hS2.out.gr.cell hkc
                     unfold ow at d1
                     unfold oi at d2
                     clear HW ha2 hm2 hWV))
                go_roundw
                case rel =>
                  have g1 := only_set V2 gw k (encStr b)
                  have g2 := only_set (V2.setCell ⟨gw, k, none⟩ (encStr b)) (gw + 1) k (.bool true)
                  exact ⟨j + 1, X2, s2, (os.set k (some b)), by omega, by simp, Lib.hid ((hS2.out.outside3 g1 hxa2 hgw).outside3 g2 hxb2 (by omega)), hIe, Lib.hid (hWn2.out.set k b), hxa2, hxb2⟩
                case measure => simp [intOf]; omega
              · have hv1' : (kv == 1) = false := by simpa using hv1
                by_cases hv2 : kv = 2
                · subst hv2
                  have hIe : Hid (YI s2 ks (decide (sy < j + 1)) (j + 1 - sy) (2 * (j + 1) + 1) (os.set k (some (b.take (b.length / 2))))) := Lib.hid (by
                    have h1 := hI2.out.more
                    rw [show decide (sy < j + 1) = true by simp; omega, show j + 1 - sy = m1 + 1 by have := hm1.out; omega]
                    simpa [wantS, hkg, show 2 * (j + 1) + 1 = 2 * j + 1 + 1 + 1 by omega] using h1)
                  go_wp2_with (first
                    | (go_at_call 13; (with_reducible refine HW.out.mono ?_); rintro e V2 ⟨rfl, X2, ha2, hm2⟩
                       obtain ⟨hWn2, hxa2, hxb2⟩ := hWV.out.mv hm2 hxa1 hxb1
                       have hS2 := Lib.hid ((hS1.out.more hV).step ha2 hm2)
                       obtain ⟨d1, d2⟩ := hWn2.cells hl3.out hk3
                       have f1 := hWn2.a.frozen k
                       have f2 := hWn2.b.frozen k
                       have cr2 := hS2.out.gr.cell hc
                       have sb := str_at qc hql.out (hqr.gr hS2.out.gr)
                       have hWn2 := Lib.hid hWn2
                       have cr3 := hS2.out.gr.cell hkc
                       unfold ow at d1
                       unfold oi at d2
                       clear HW ha2 hm2 hWV))
                  have hbh := half_len b qn hql.out
                  obtain ⟨q1, q2, q3⟩ := half_bounds qn qc hqle
                  obtain ⟨w1', w2', w3'⟩ := half_wraps qn hqn
                  have sh : (convert 31 9 (.slice qA (qn / 2) qc)).run Try.prog V2.drew = .ok (encStr (b.take (b.length / 2))) V2.drew := str_at qc hbh (by rw [List.map_take]; exact ((hqr.gr hS2.out.gr).take _).drew)
                  have cr2d : V2.drew.cell? (ad.add j) = some (.slice qA qn qc) := cr2
                  have d1d : V2.drew.cell? ⟨gw, k, none⟩ = _ := d1
                  have d2d : V2.drew.cell? ⟨gw + 1, k, none⟩ = _ := d2
                  have f1d : V2.drew.frozen? ⟨gw, k, none⟩ = false := f1
                  have f2d : V2.drew.frozen? ⟨gw + 1, k, none⟩ = false := f2
                  have hWn3 := Lib.hid (hWn2.out.gr (Gr.draw V2))
                  have hS3 := Lib.hid (hS2.out.more (Gr.draw V2))
                  clear cr2 d1 d2 f1 f2 sb hWn2 hS2
                  generalize b.take (b.length / 2) = bh at *
                  refine Vc.wp_region_facts ⟨fun W W' => W = W', fun _ _ _ => True, fun q W => W = st3 V2.drew (V2.drew.setCell ⟨gw, k, none⟩ (encStr bh)) ((V2.drew.setCell ⟨gw, k, none⟩ (encStr bh)).setCell ⟨gw + 1, k, none⟩ (.bool true)) q, [15, 17]⟩ (by kernel_rfl) (by kernel_rfl) (fun _ _ _ h h' => h ▸ h') rfl ?_
                  generalize V2.drew = V3 at *
                  repeat
                    refine Vc.Walk.pure (v := ?_) (fun _ => rfl) rfl (by first | exact Vc.GuardYes.no rfl | exact Vc.GuardYes.yes rfl rfl) rfl rfl ?_ ?_
                    rotate_left
                    · intro _ W hI
                      (clear hI)
                      go_simp
                      exact rfl
                  repeat
                    refine Vc.Walk.pure (v := ?_) (fun _ => rfl) rfl (by first | exact Vc.GuardYes.no rfl | exact Vc.GuardYes.yes rfl rfl) rfl rfl ?_ ?_
                    rotate_left
                    · intro _ W hI
                      (have hk0 := Nat.le_zero.1 (hI.le 0 15 rfl (by kernel_rfl)); have hg := hI.g; clear hI; rw [hk0] at hg; have hg : W = V3 := hg; subst hg)
                      go_simp
                      exact rfl
                  refine Vc.Walk.any (.is undef) trivial (.no rfl) ?_ ?_
                  · intro ρ _ W hI hf
                    obtain rfl := hI.eq 0 rfl
                    have hg : W = V3 := hI.g
                    subst hg
                    obtain ⟨hρ1, hρ2, _⟩ := hf
                    have e1 : ρ (.tmp 114) = .pointer (some ⟨gw, k, none⟩) := hρ1
                    have e2 : ρ (.tmp 113) = encStr bh := hρ2
                    clear hI hρ1 hρ2
                    go_simp
                    exact ⟨trivial, rfl⟩
                  repeat
                    refine Vc.Walk.pure (v := ?_) (fun _ => rfl) rfl (by first | exact Vc.GuardYes.no rfl | exact Vc.GuardYes.yes rfl rfl) rfl rfl ?_ ?_
                    rotate_left
                    · intro _ W hI
                      (clear hI)
                      go_simp
                      exact rfl
                  have hb' := hWn3.out.b.far (p := ⟨gw, k, none⟩) (by simp) (encStr bh)
                  have d2e := (hb'.cell k).trans ((hWn3.out.b.cell k).symm.trans d2d)
                  have f2e := hb'.frozen k
                  refine Vc.Walk.any (.is undef) trivial (.no rfl) ?_ ?_
                  · intro ρ _ W hI hf
                    obtain rfl := hI.eq 1 rfl
                    have hg : W = V3.setCell ⟨gw, k, none⟩ (encStr bh) := hI.g
                    subst hg
                    obtain ⟨hρ1, hρ2, _⟩ := hf
                    have e1 : ρ (.tmp 115) = .pointer (some ⟨gw + 1, k, none⟩) := hρ1
                    have e2 : ρ (.const (.bool true)) = .bool true := hρ2
                    clear hI hρ1 hρ2
                    go_simp
                    exact ⟨trivial, rfl⟩
                  intro W hW
                  have hW : W = (V3.setCell ⟨gw, k, none⟩ (encStr bh)).setCell ⟨gw + 1, k, none⟩ (.bool true) := hW
                  subst hW
                  simp only [List.reverse_cons, List.reverse_nil, List.nil_append, List.cons_append, Vc.finish, Act.put, List.setIfInBounds_toArray, List.set_cons_zero, List.set_cons_succ]
                  clear d1d d2d f1d f2d d2e f2e hb' cr2d sh
                  go_wp2_with fail
                  go_roundw
                  case rel =>
                    have g1 := only_set V3 gw k (encStr bh)
                    have g2 := only_set (V3.setCell ⟨gw, k, none⟩ (encStr bh)) (gw + 1) k (.bool true)
                    exact ⟨j + 1, X2, s2, (os.set k (some bh)), by omega, by simp, Lib.hid ((hS3.out.outside3 g1 hxa2 hgw).outside3 g2 hxb2 (by omega)), hIe, Lib.hid (hWn3.out.set k bh), hxa2, hxb2⟩
                  case measure => simp [intOf]; omega
                · have hv2' : (kv == 2) = false := by simpa using hv2
                  have hIe : Hid (YI s2 ks (decide (sy < j + 1)) (j + 1 - sy) (2 * (j + 1) + 1) os) := Lib.hid (by
                    have h1 := hI2.out.more
                    rw [show decide (sy < j + 1) = true by simp; omega, show j + 1 - sy = m1 + 1 by have := hm1.out; omega]
                    simpa [wantS, hkg, hv1, hv2, show 2 * (j + 1) + 1 = 2 * j + 1 + 1 + 1 by omega] using h1)
                  go_wp2_with (first
                    | (go_at_call 13; (with_reducible refine HW.out.mono ?_); rintro e V2 ⟨rfl, X2, ha2, hm2⟩
                       obtain ⟨hWn2, hxa2, hxb2⟩ := hWV.out.mv hm2 hxa1 hxb1
                       have hS2 := Lib.hid ((hS1.out.more hV).step ha2 hm2)
                       obtain ⟨d1, d2⟩ := hWn2.cells hl3.out hk3
                       have f1 := hWn2.a.frozen k
                       have f2 := hWn2.b.frozen k
                       have cr2 := hS2.out.gr.cell hc
                       have sb := str_at qc hql.out (hqr.gr hS2.out.gr)
                       have hWn2 := Lib.hid hWn2
                       have cr3 := hS2.out.gr.cell hkc
                       unfold ow at d1
                       unfold oi at d2
                       clear HW ha2 hm2 hWV))
                  go_roundw
                  case rel => exact ⟨j + 1, X2, s2, os, by omega, by simp, hS2, hIe, hWn2, hxa2, hxb2⟩
                  case measure => simp [intOf]; omega
            · have hm2l' : ¬ (m1 : Int) < (n2 : Int) := by omega
              have hkg : ks[m1]? = none := List.getElem?_eq_none (by have := hn2.out; omega)
              have hIe : Hid (YI s2 ks (decide (sy < j + 1)) (j + 1 - sy) (2 * (j + 1) + 1) os) := Lib.hid (by
                have h1 := hI2.out.more
                rw [show decide (sy < j + 1) = true by simp; omega, show j + 1 - sy = m1 + 1 by have := hm1.out; omega]
                simpa [wantS, hkg, show 2 * (j + 1) + 1 = 2 * j + 1 + 1 + 1 by omega] using h1)
              go_wp2_with (first
                | (go_at_call 13; (with_reducible refine HW.out.mono ?_); rintro e V2 ⟨rfl, X2, ha2, hm2⟩
                   obtain ⟨hWn2, hxa2, hxb2⟩ := hWV.out.mv hm2 hxa1 hxb1
                   have hS2 := Lib.hid ((hS1.out.more hV).step ha2 hm2)
                   obtain ⟨d1, d2⟩ := hWn2.cells hl3.out hk3
                   have f1 := hWn2.a.frozen k
                   have f2 := hWn2.b.frozen k
                   have cr2 := hS2.out.gr.cell hc
                   have sb := str_at qc hql.out (hqr.gr hS2.out.gr)
                   have hWn2 := Lib.hid hWn2
                   skip
                   unfold ow at d1
                   unfold oi at d2
                   clear HW ha2 hm2 hWV))
              go_roundw
              case rel => exact ⟨j + 1, X2, s2, os, by omega, by simp, hS2, hIe, hWn2, hxa2, hxb2⟩
              case measure => simp [intOf]; omega
    · obtain rfl : j = n := by omega
      by_cases hsn2 : sy = j
      · have hsn' : ((sy : Int) == (j : Int)) = true := by simp; omega
        have hsm : Sm s := ⟨Nat.le_trans hI.out.ops (by omega), by rw [hI.out.stop]; omega⟩
        obtain ⟨s3, heF, hI3⟩ := YI.flush (by have h1 := hI.out; rw [show decide (sy < j) = false by simp; omega] at h1; exact h1)
        have HF := Lib.hid (flush_any hS.out.at_ hsm)
        rw [heF] at HF
        have hI3 := Lib.hid hI3
        obtain ⟨os3, hos⟩ : ∃ o, o = os := ⟨_, rfl⟩
        rw [← hos] at hI3 hWn
        clear heF hos
        replace hsn2 := Lib.hid hsn2
        have hsm3 : Sm s3 := ⟨Nat.le_trans hI3.out.ops (by omega), by rw [hI3.out.stop]; omega⟩
        go_wp2_with (first
          | (go_at_call 19; (with_reducible refine HF.out.mono ?_); rintro e V3 ⟨rfl, X3, ha3, hm3⟩
             obtain ⟨hWn3, hxa3, hxb3⟩ := hWn.out.mv hm3 hxa hxb
             have hS3 := Lib.hid (hS.out.step ha3 hm3)
             replace hWn3 := Lib.hid hWn3
             have hxk : 0 < n2 → ∀ ad, A2 = some ad → ¬ X3 ad.block := fun h0 ad e hx => by
               obtain ⟨ad', e', hc'⟩ := hr2.at_ (k := 0) (by simp; have := hn2.out; omega)
               rw [e] at e'
               injection e' with e'
               subst e'
               have h1 := World.block_lt_of_cell? w _ hc'
               rw [block_of_add] at h1
               have h2 := hS3.out.hi _ hx
               omega
             have HC := Lib.hid (crash_any hS3.out.at_ hsm3 A2 n2 c2 ks hn2 (hr2.gr hS3.out.gr) hxk (by omega))
             clear HF ha3 hm3)
          | (go_at_call 20; (with_reducible refine HC.out.mono ?_); rintro e V4 ⟨rfl, X4, ha4, hm4⟩
             have hS4 := Lib.hid (hS3.out.step ha4 hm4)
             have hWn4 := Lib.hid (hWn3.out.mv hm4 hxa3 hxb3).1))
        go_loopw [15] (fun i wr => ∃ t : Nat, t ≤ 3 ∧ i = .int .i64 t ∧ Gr V4 wr) (fun i _ => 3 - (intOf i).toNat)
        case atStart => exact ⟨0, by omega, rfl, Gr.rfl' _⟩
        case round =>
          obtain ⟨t, ht, rfl, hgt⟩ := hrel
          have hSt := Lib.hid (hS4.out.more hgt)
          have hWt := Lib.hid (hWn4.out.gr hgt)
          by_cases ht3 : t < 3
          · have hg3 := Gr.alloc1 wr (.cells #[.string ⟨#[97]⟩, .string ⟨#[98]⟩, .string ⟨#[99]⟩] 9)
            have hcl : (wr.alloc (.cells #[.string ⟨#[97]⟩, .string ⟨#[98]⟩, .string ⟨#[99]⟩] 9)).cell? ⟨wr.heap.size, t, none⟩ = some (encStr (nm3 t)) := ((Row.new wr 9 (nmL3.map encStr)).cell t).trans (nmL3_at ht3)
            have HR := Lib.hid (read_any (hSt.out.more hg3).at_ (nm3 t) (by rw [nm3_len t ht3]; decide))
            rw [hI3.out.read ht3] at HR
            have ht3' : (t : Int) < 3 := by omega
            have hrow := hWt.out.cells hI3.out.len ht3
            unfold ow oi at hrow
            generalize os3.getD t none = oo at HR hrow
            generalize oo.getD [] = xo at HR hrow
            generalize oo.isSome = xb at HR hrow
            replace hrow := Lib.hid hrow
            go_wp2_with (first
              | (go_at_call 16; (with_reducible refine HR.out.mono ?_); rintro e V5 ⟨Ab, mb, cb, rfl, hmb, hob, hgb⟩
                 replace hmb := Lib.hid hmb
                 have hG5 := hgt.trans' (hg3.trans' hgb)
                 clear HR))
            have sbd := str_at (W := V5.drew) cb hmb.out.symm hob.drew.rd
            have y1 : V5.drew.cell? ⟨gw, t, none⟩ = _ := ((hg3.trans' hgb).trans' (Gr.draw _)).cell hrow.out.1
            have y2 : V5.drew.cell? ⟨gw + 1, t, none⟩ = _ := ((hg3.trans' hgb).trans' (Gr.draw _)).cell hrow.out.2
            clear hob hcl
            refine Vc.wp_region_facts ⟨fun W W' => W = W', fun _ W W' => W = W', fun _ W => W = V5.drew, []⟩ (by kernel_rfl) (by kernel_rfl) (fun _ _ _ h h' => h ▸ h') rfl ?_
            repeat
              refine Vc.Walk.pure (v := ?_) (fun _ => rfl) rfl (by first | exact Vc.GuardYes.no rfl | exact Vc.GuardYes.yes rfl rfl) rfl rfl ?_ ?_
              rotate_left
              · intro _ W hI
                (obtain rfl := hI.g; clear hI)
                go_simp
                exact rfl
            rintro V rfl
            simp only [List.reverse_cons, List.reverse_nil, List.nil_append, List.cons_append, Vc.finish, Act.put, List.setIfInBounds_toArray, List.set_cons_zero, List.set_cons_succ]
            go_wp2_with fail
            go_roundw
            case rel => exact ⟨t + 1, by omega, by simp, hG5.trans' (Gr.draw _)⟩
            case measure => simp [intOf]; omega
          · have HD := Lib.hid (dead_any hSt.out.at_)
            have ht3' : ¬ (t : Int) < 3 := by omega
            rw [show (s3.crash ks).dead = false from rfl] at HD
            go_wp2_with (first
              | (go_at_call 21; (with_reducible refine HD.out.mono ?_); rintro e V6 ⟨rfl, rfl⟩; clear HD))
            go_ret
            exact ⟨rfl, hSt.out.gr⟩
      · have hsn' : ((sy : Int) == (j : Int)) = false := by simp; omega
        obtain ⟨s3, X3, hs3⟩ : ∃ s3 X3, s3 = s ∧ X3 = X := ⟨_, _, rfl, rfl⟩
        obtain ⟨rfl, rfl⟩ := hs3
        obtain ⟨os3, rfl⟩ : ∃ o, o = os := ⟨_, rfl⟩
        have hI3 : Hid (YI s3 ks true (j - sy) (2 * j + 1) os3) := Lib.hid (by have h1 := hI.out; rw [show decide (sy < j) = true by simp; omega] at h1; exact h1)
        have hS3 := hS
        have hWn3 := hWn
        have hxa3 := hxa
        have hxb3 := hxb
        have hsm3 : Sm s3 := ⟨Nat.le_trans hI3.out.ops (by omega), by rw [hI3.out.stop]; omega⟩
        have hxk : 0 < n2 → ∀ ad, A2 = some ad → ¬ X3 ad.block := fun h0 ad e hx => by
          obtain ⟨ad', e', hc'⟩ := hr2.at_ (k := 0) (by simp; have := hn2.out; omega)
          rw [e] at e'
          injection e' with e'
          subst e'
          have h1 := World.block_lt_of_cell? w _ hc'
          rw [block_of_add] at h1
          have h2 := hS3.out.hi _ hx
          omega
        have HC := Lib.hid (crash_any hS3.out.at_ hsm3 A2 n2 c2 ks hn2 (hr2.gr hS3.out.gr) hxk (by omega))
        go_wp2_with (first
          | (go_at_call 20; (with_reducible refine HC.out.mono ?_); rintro e V4 ⟨rfl, X4, ha4, hm4⟩
             have hS4 := Lib.hid (hS3.out.step ha4 hm4)
             have hWn4 := Lib.hid (hWn3.out.mv hm4 hxa3 hxb3).1))
        go_loopw [15] (fun i wr => ∃ t : Nat, t ≤ 3 ∧ i = .int .i64 t ∧ Gr V4 wr) (fun i _ => 3 - (intOf i).toNat)
        case atStart => exact ⟨0, by omega, rfl, Gr.rfl' _⟩
        case round =>
          obtain ⟨t, ht, rfl, hgt⟩ := hrel
          have hSt := Lib.hid (hS4.out.more hgt)
          have hWt := Lib.hid (hWn4.out.gr hgt)
          by_cases ht3 : t < 3
          · have hg3 := Gr.alloc1 wr (.cells #[.string ⟨#[97]⟩, .string ⟨#[98]⟩, .string ⟨#[99]⟩] 9)
            have hcl : (wr.alloc (.cells #[.string ⟨#[97]⟩, .string ⟨#[98]⟩, .string ⟨#[99]⟩] 9)).cell? ⟨wr.heap.size, t, none⟩ = some (encStr (nm3 t)) := ((Row.new wr 9 (nmL3.map encStr)).cell t).trans (nmL3_at ht3)
            have HR := Lib.hid (read_any (hSt.out.more hg3).at_ (nm3 t) (by rw [nm3_len t ht3]; decide))
            rw [hI3.out.read ht3] at HR
            have ht3' : (t : Int) < 3 := by omega
            have hrow := hWt.out.cells hI3.out.len ht3
            unfold ow oi at hrow
            generalize os3.getD t none = oo at HR hrow
            generalize oo.getD [] = xo at HR hrow
            generalize oo.isSome = xb at HR hrow
            replace hrow := Lib.hid hrow
            go_wp2_with (first
              | (go_at_call 16; (with_reducible refine HR.out.mono ?_); rintro e V5 ⟨Ab, mb, cb, rfl, hmb, hob, hgb⟩
                 replace hmb := Lib.hid hmb
                 have hG5 := hgt.trans' (hg3.trans' hgb)
                 clear HR))
            have sbd := str_at (W := V5.drew) cb hmb.out.symm hob.drew.rd
            have y1 : V5.drew.cell? ⟨gw, t, none⟩ = _ := ((hg3.trans' hgb).trans' (Gr.draw _)).cell hrow.out.1
            have y2 : V5.drew.cell? ⟨gw + 1, t, none⟩ = _ := ((hg3.trans' hgb).trans' (Gr.draw _)).cell hrow.out.2
            clear hob hcl
            refine Vc.wp_region_facts ⟨fun W W' => W = W', fun _ W W' => W = W', fun _ W => W = V5.drew, []⟩ (by kernel_rfl) (by kernel_rfl) (fun _ _ _ h h' => h ▸ h') rfl ?_
            repeat
              refine Vc.Walk.pure (v := ?_) (fun _ => rfl) rfl (by first | exact Vc.GuardYes.no rfl | exact Vc.GuardYes.yes rfl rfl) rfl rfl ?_ ?_
              rotate_left
              · intro _ W hI
                (obtain rfl := hI.g; clear hI)
                go_simp
                exact rfl
            rintro V rfl
            simp only [List.reverse_cons, List.reverse_nil, List.nil_append, List.cons_append, Vc.finish, Act.put, List.setIfInBounds_toArray, List.set_cons_zero, List.set_cons_succ]
            go_wp2_with fail
            go_roundw
            case rel => exact ⟨t + 1, by omega, by simp, hG5.trans' (Gr.draw _)⟩
            case measure => simp [intOf]; omega
          · have HD := Lib.hid (dead_any hSt.out.at_)
            have ht3' : ¬ (t : Int) < 3 := by omega
            rw [show (s3.crash ks).dead = false from rfl] at HD
            go_wp2_with (first
              | (go_at_call 21; (with_reducible refine HD.out.mono ?_); rintro e V6 ⟨rfl, rfl⟩; clear HD))
            go_ret
            exact ⟨rfl, hSt.out.gr⟩
end Go.Proofs.Ytopellbmmkflgaa
