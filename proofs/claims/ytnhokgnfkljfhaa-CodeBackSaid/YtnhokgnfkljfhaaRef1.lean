/- Package cadenceref1: the writers and the reader. -/
import Derived.Test.YtnhokgnfkljfhaaCode3
import Derived.Test.YtnhokgnfkljfhaaApp
import Derived.Deep.QuietTactic
import Derived.BigQuiet
set_option linter.unusedVariables false
set_option linter.unusedSimpArgs false
namespace Go.Proofs.Ytnhokgnfkljfhaa
open Go.RowKit

/-- A slice of bytes of the call's own was appended to. -/
def AppB (w : World) (B : Nat) (A : Option Addr) (xs : List UInt8) (bs : List UInt8) (e : Ending) (w' : World) : Prop :=
  ∃ A' n' c', e = .returned (.slice A' n' c') ∧ Hid (bs.length = n') ∧ AppTo w B 5 1 A (xs.map bv) w' A' n' c' (bs.map bv)

theorem le_succ (v k : Nat) : le v (k + 1) = le v k ++ [UInt8.ofNat (v / 2 ^ (8 * k))] := by simp [le, List.range_succ]
theorem bv_shr (v k : Nat) : bv (UInt8.ofNat (v / 2 ^ (8 * k))) = .int .u8 ((v : Int) / 2 ^ (8 * k) % 256) := by simp [bv]

theorem u8_mod (k : Int) : Value.int .u8 (k % 256) = bv (u8 k) := by
  rw [← u8_wrap k]
  simp [IntKind.wrap, IntKind.bits, IntKind.signed]

theorem xByte_any (B : Nat) (A : Option Addr) (n c : Nat) (bs : List UInt8) (k : Int) (w : World) (hn : Hid (bs.length = n)) (hx : Own w B 5 1 A n c (bs.map bv)) (hB : B ≤ w.heap.size) (hl : n ≤ 140737488351200) :
    Calls Try.prog 15 #[.slice A n c, .int .i64 k] w (AppB w B A bs (bs ++ [u8 k])) := by
  obtain ⟨i0, hi, hz0, hz1, hz2⟩ := info_parts info_u8
  have hu := Lib.hid (u8_mod k)
  go_enter Try.func15, Try.ntmps15
  go_wp2_with (at_builtin; refine wpList_append _ rfl _ _ 22 rfl B 5 i0 _ 1 1 Try.underlying22 hi hz0 hz1 hz2 rfl (by omega) A n c _ rfl (hx.alloc _) _ 1 1 _ rfl rfl (Rd.one_new _ _ _) (by simp; rfl) (by omega) (by unfold maxLen; omega) (by simp; omega) ?_; intro A' c' w' hown hk)
  go_ret
  rw [hu.out] at hown
  exact ⟨A', n + 1, c', rfl, Lib.hid (by have := hn.out; simp; omega), by
    have h1 := ((AppTo.refl hx hB).gr (Gr.alloc1 _ _)).step hown hk
    simpa using h1⟩

theorem xInt_any (B : Nat) (A : Option Addr) (n c : Nat) (bs : List UInt8) (k : Int) (w : World) (hn : Hid (bs.length = n)) (hx : Own w B 5 1 A n c (bs.map bv)) (hB : B ≤ w.heap.size) (hl : n ≤ 140737488351200) :
    Calls Try.prog 13 #[.slice A n c, .int .i64 k] w (AppB w B A bs (bs ++ le (u64 k) 8)) := by
  obtain ⟨i0, hi, hz0, hz1, hz2⟩ := info_parts info_u8
  have hw := u64_wrap k
  have hlt := u64_lt k
  generalize u64 k = v at *
  go_enter Try.func13, Try.ntmps13
  go_wp2
  go_loopw [0, 5] (fun b i wr => ∃ j : Nat, j ≤ 8 ∧ i = .int .i64 j ∧ ∃ A' n' c', b = .slice A' n' c' ∧ n' ≤ n + j ∧ Hid ((bs ++ le v j).length = n') ∧ AppTo w B 5 1 A (bs.map bv) wr A' n' c' ((bs ++ le v j).map bv)) (fun _ i _ => 8 - (intOf i).toNat)
  case atStart => exact ⟨0, by omega, rfl, A, n, c, rfl, by omega, by simpa [le] using hn, by simpa [le] using AppTo.refl hx hB⟩
  case round =>
    obtain ⟨j, hj, rfl, A', n', c', rfl, hn', hl', hto⟩ := hrel
    by_cases hlt : j < 8
    · have hstep := Lib.hid (bv_shr v j)
      go_wp2_with (at_builtin; refine wpList_append _ rfl _ _ 22 rfl B 5 i0 _ 1 1 Try.underlying22 hi hz0 hz1 hz2 rfl (by omega) A' n' c' _ rfl (hto.own.alloc _) _ 1 1 _ rfl rfl (Rd.one_new _ _ _) (by simp; rfl) (by omega) (by unfold maxLen; omega) (by have := hto.base; have := hto.size; simp; omega) ?_; intro A2 c2 w2 hown hk)
      rw [← hstep.out] at hown
      have hto' := (hto.gr (Gr.alloc1 _ _)).step hown hk
      go_roundw
      case rel => exact ⟨j + 1, by omega, by go_num, A2, n' + 1, c2, rfl, by omega, Lib.hid (by have := hl'.out; rw [le_succ, ← List.append_assoc, List.length_append, this]; rfl), by rw [le_succ]; simpa using hto'⟩
      case measure => simp [intOf]; omega
    · obtain rfl : j = 8 := by omega
      go_wp2
      go_ret
      exact ⟨A', n', c', rfl, hl', hto⟩

theorem le_two (n : Nat) (h : n ≤ 65535) : [Value.int .u8 ((n : Int) % 256), .int .u8 ((n : Int) / 256)] = (le n 2).map bv := by
  have h1 : (n : Int) / 256 = ((n / 256 % 256 : Nat) : Int) := by omega
  rw [h1]
  simp [le, bv, List.range_succ]

theorem xText_any (B : Nat) (A : Option Addr) (n c : Nat) (bs : List UInt8) (s : ByteArray) (w : World) (hn : Hid (bs.length = n)) (hx : Own w B 5 1 A n c (bs.map bv)) (hB : B ≤ w.heap.size) (hl : n ≤ 140737488285000) (hs : s.size ≤ maxLen) :
    Calls Try.prog 17 #[.slice A n c, .string s] w (AppB w B A bs (bs ++ le (cutS s).length 2 ++ cutS s)) := by
  obtain ⟨i0, hi, hz0, hz1, hz2⟩ := info_parts info_u8
  unfold maxLen at hs
  have hBa : ∀ o : Obj, B ≤ (w.alloc o).heap.size := fun o => by have := (Gr.alloc1 w o).size; omega
  by_cases h : s.size ≤ 65535
  · rw [cutS_small h]
    have e : s.data.toList.length = s.size := by simp
    rw [e]
    have h2 := Lib.hid (le_two s.size h)
    have hl2 := Lib.hid (le_length s.size 2)
    clear e
    generalize hL : le s.size 2 = L at *
    clear hL
    go_enter Try.func17, Try.ntmps17
    go_wp2_with (first
      | (at_builtin; with_reducible refine wpList_append (o := ⟨some 19, _, _, _, _, _⟩) _ rfl _ _ 22 rfl B 5 i0 _ 1 1 Try.underlying22 hi hz0 hz1 hz2 rfl (by omega) A n c _ rfl (hx.alloc _) _ 2 2 _ rfl (by simp) (Rd.new _ _ _) (by simp; exact ⟨rfl, rfl⟩) (by omega) (by unfold maxLen; omega) (hBa _) ?_
         intro A2 c2 w2 hown2 hk2
         rw [h2.out] at hown2
         have hto2 := ((AppTo.refl hx hB).gr (Gr.alloc1 _ _)).step hown2 hk2
         clear hown2 hk2)
      | (at_builtin; with_reducible refine wpList_append_string (o := ⟨some 21, _, _, _, _, _⟩) _ rfl _ _ 22 9 rfl B 5 i0 Try.underlying22 Try.underlying9 hi hz0 hz1 hz2 _ _ _ _ rfl hto2.own s rfl (by omega) (by have := hto2.base; have := hto2.size; omega) ?_
         intro A3 c3 w3 hown3 hk3))
    go_ret
    have hto3 := hto2.step hown3 hk3
    exact ⟨A3, _, c3, rfl, Lib.hid (by have := hn.out; have := hl2.out; simp; omega), by simpa using hto3⟩
  · rw [cutS_large (by omega)]
    have e : (s.extract 0 65535).data.toList.length = min 65535 s.size := by simp
    rw [e]
    have h2 := Lib.hid (le_two (min 65535 s.size) (by omega))
    have hl2 := Lib.hid (le_length (min 65535 s.size) 2)
    clear e
    generalize hL : le (min 65535 s.size) 2 = L at *
    clear hL
    go_enter Try.func17, Try.ntmps17
    go_wp2_with (first
      | (at_builtin; with_reducible refine wpList_append (o := ⟨some 19, _, _, _, _, _⟩) _ rfl _ _ 22 rfl B 5 i0 _ 1 1 Try.underlying22 hi hz0 hz1 hz2 rfl (by omega) A n c _ rfl (hx.alloc _) _ 2 2 _ rfl (by simp) (Rd.new _ _ _) (by simp; exact ⟨rfl, rfl⟩) (by omega) (by unfold maxLen; omega) (hBa _) ?_
         intro A2 c2 w2 hown2 hk2
         rw [h2.out] at hown2
         have hto2 := ((AppTo.refl hx hB).gr (Gr.alloc1 _ _)).step hown2 hk2
         clear hown2 hk2)
      | (at_builtin; with_reducible refine wpList_append_string (o := ⟨some 21, _, _, _, _, _⟩) _ rfl _ _ 22 9 rfl B 5 i0 Try.underlying22 Try.underlying9 hi hz0 hz1 hz2 _ _ _ _ rfl hto2.own _ rfl (by simp; omega) (by have := hto2.base; have := hto2.size; omega) ?_
         intro A3 c3 w3 hown3 hk3))
    go_ret
    have hto3 := hto2.step hown3 hk3
    have e3 : n + 2 + (s.extract 0 65535).size = n + 2 + min 65535 s.size := by simp
    rw [e3] at hto3
    exact ⟨A3, _, c3, rfl, Lib.hid (by have := hn.out; have := hl2.out; simp; omega), by simpa using hto3⟩

/-! ### Facts on slices of bytes -/
/-- In a block of its own, that is not A's. -/
def FB (A : Option Addr) (bs : List UInt8) (v : Value) (w : World) : Prop :=
  ∃ g n, v = .slice (some ⟨g, 0, none⟩) n n ∧ Hid (bs.length = n) ∧ Row w g 5 (bs.map bv) ∧ blkOf A ≠ some g
theorem FB.gr {A : Option Addr} {bs : List UInt8} {v : Value} {w w' : World} (hl : Gr w w') (h : FB A bs v w) : FB A bs v w' := by
  obtain ⟨g, n, hv, hn, hr, hne⟩ := h
  exact ⟨g, n, hv, hn, hr.gr hl, hne⟩
theorem FB.grown {A : Option Addr} {bs : List UInt8} {v : Value} {w w' : World} (hl : w.grownBy w' (blkOf A)) (h : FB A bs v w) : FB A bs v w' := by
  obtain ⟨g, n, hv, hn, hr, hne⟩ := h
  exact ⟨g, n, hv, hn, (hl.block g hr.lt (fun e => hne e.symm)).trans hr, hne⟩
theorem FB.rb {A : Option Addr} {bs : List UInt8} {v : Value} {w : World} (h : FB A bs v w) : ∃ B n c, v = .slice B n c ∧ Hid (bs.length = n) ∧ Rd w B (bs.map bv) := by
  obtain ⟨g, n, hv, hn, hr, hne⟩ := h
  exact ⟨_, n, n, hv, hn, Rd.of_row' hr⟩
theorem FB.of {w : World} {A : Option Addr} {bs : List UInt8} {e : Ending} {w' : World} (h : FreshB w bs e w') (hA : ∀ g, blkOf A = some g → g < w.heap.size) : ∃ v, e = .returned v ∧ FB A bs v w' ∧ Gr w w' := by
  obtain ⟨g, n, rfl, hn, hg, hr, hgr⟩ := h
  exact ⟨_, rfl, ⟨g, n, rfl, hn, hr, fun e => by have := hA g e; omega⟩, hgr⟩
def RB (bs : List UInt8) (v : Value) (w : World) : Prop := ∃ B n c, v = .slice B n c ∧ Hid (bs.length = n) ∧ Rd w B (bs.map bv)
theorem RB.gr {bs : List UInt8} {v : Value} {w w' : World} (hl : Gr w w') (h : RB bs v w) : RB bs v w' := by
  obtain ⟨B, n, c, hv, hn, hr⟩ := h
  exact ⟨B, n, c, hv, hn, hr.gr hl⟩

/-! ### The reader -/
def RefAt (w : World) (g : Nat) (s : Rs) : Prop :=
  ∃ A c, ∃ (L : List UInt8) (p : Nat), Row w g 58 [.slice A L.length c, .int .i64 p, .int .i64 s.2] ∧ Rd w A (L.map bv) ∧ p ≤ L.length ∧ s.1 = L.drop p ∧ L.length ≤ c ∧ (c ≤ 9223372036854775807 ∧ L.length ≤ 140737488351232)

theorem xNew_any (A : Option Addr) (n c : Nat) (bs : List UInt8) (w : World) (hn : Hid (bs.length = n)) (hx : Rd w A (bs.map bv)) (hl : n ≤ c) (hc : c ≤ 9223372036854775807 ∧ n ≤ 140737488351232) :
    Calls Try.prog 24 #[.slice A n c] w fun e w' => ∃ g, e = .returned (.pointer (some ⟨g, 0, none⟩)) ∧ w.heap.size ≤ g ∧ RefAt w' g (bs, 0) ∧ Gr w w' := by
  go_enter Try.func24, Try.ntmps24
  go_wp2
  go_ret
  obtain rfl := hn.out
  exact ⟨w.heap.size, rfl, Nat.le_refl _, ⟨A, c, bs, 0, Row.new w _ _, hx.gr (Gr.alloc1 _ _), Nat.zero_le _, rfl, hl, hc⟩, Gr.alloc1 _ _⟩

theorem ref_cells (A : Option Addr) (n c : Nat) (p e : Int) : ∀ x ∈ [Value.slice A n c, .int .i64 p, .int .i64 e], ∀ b, bv b ≠ x := by
  intro x hx b
  simp only [List.mem_cons, List.not_mem_nil, or_false] at hx
  rcases hx with rfl | rfl | rfl
  · exact bv_ne_slice _ _ _ _
  · exact bv_ne_int _ _
  · exact bv_ne_int _ _

def RefOut (w : World) (g : Nat) (o : List UInt8 × Rs) (e : Ending) (w' : World) : Prop :=
  ∃ A n c, e = .returned (.slice A n c) ∧ Hid (o.1.length = n) ∧ Rd w' A (o.1.map bv) ∧ RefAt w' g o.2 ∧ w.grownBy w' (some g)

theorem xtake_any (g : Nat) (s : Rs) (k : Nat) (w : World) (hs : RefAt w g s) (hk : k ≤ 140737488351232) :
    Calls Try.prog 35 #[.pointer (some ⟨g, 0, none⟩), .int .i64 k] w (RefOut w g (takeS s k)) := by
  obtain ⟨bs, er⟩ := s
  have hs' := hs
  obtain ⟨A, c, L, p, hr, hd, hp, hbs, hlc, hcm⟩ := hs'
  simp only at hr hbs
  have c0 : w.cell? ⟨g, 0, none⟩ = some (.slice A L.length c) := by rw [hr.cell]; rfl
  have c1 : w.cell? ⟨g, 1, none⟩ = some (.int .i64 p) := by rw [hr.cell]; rfl
  have c2 : w.cell? ⟨g, 2, none⟩ = some (.int .i64 er) := by rw [hr.cell]; rfl
  have f1 := hr.frozen 1
  have f2 := hr.frozen 2
  have hbl : bs.length = L.length - p := by rw [hbs]; simp
  by_cases he : er = 0
  · subst he
    by_cases hn : k ≤ bs.length
    · rw [takeS_some hn]
      have ht : decide ((L.length : Int) - p < k) = false := by simp; omega
      have hle : p + k ≤ L.length := by omega
      have HB := Lib.hid hbl
      have HS := Lib.hid hbs
      clear hbl hbs
      go_enter Try.func35, Try.ntmps35
      go_wp2_with fail
      go_quiet (fail)
      go_wp2_with fail
      have ho := only_set (w.drewN nq) g 1 (.int .i64 ((p : Int) + k))
      have hr1 := (hr.drewN nq).set 1 (.int .i64 ((p : Int) + k))
      have hd1 := (hd.drewN nq).keep (hr.drewN nq) (ref_cells _ _ _ _ _) ho
      generalize (w.drewN nq).setCell ⟨g, 1, none⟩ (.int .i64 ((p : Int) + k)) = w1 at *
      have d0 : w1.cell? ⟨g, 0, none⟩ = some (.slice A L.length c) := by rw [hr1.cell]; rfl
      have d1 : w1.cell? ⟨g, 1, none⟩ = some (.int .i64 ((p : Int) + k)) := by rw [hr1.cell]; rfl
      have j1 : (0 : Int) ≤ (p : Int) + k := by omega
      have hfin : RefAt w1 g (bs.drop k, 0) := ⟨A, c, L, p + k, by simpa using hr1, hd1, hle, by rw [HS.out]; simp, hlc, hcm⟩
      have hrd : bs.take k = (L.drop p).take k := by rw [HS.out]
      have hlk : (bs.take k).length = k := by simp [hn]
      have HR := Lib.hid hrd
      have HK := Lib.hid hlk
      have HO := Lib.hid (only_trans (only_of_gr (Gr.drawN w nq) _) ho)
      have HF := Lib.hid hfin
      have HD := Lib.hid hd1
      clear hrd hlk ho hr1 hfin hd1
      go_quiet (fail)
      go_wp2_with fail
      · go_ret
        have hcp : c = p := by assumption
        have hk0 : k = 0 := by omega
        have hb0 : bs.take k = [] := by rw [hk0]; rfl
        exact ⟨_, _, _, rfl, Lib.hid (by rw [hb0, hk0]; rfl), by rw [hb0]; exact Rd.nil _ _, by obtain ⟨A, c, L, p, h1, h2, h3⟩ := HF.out; exact ⟨A, c, L, p, h1.drewN _, h2.drewN _, h3⟩, only_trans HO.out (only_of_gr (Gr.drawN _ _) _)⟩
      · go_ret
        exact ⟨_, _, _, rfl, HK, by
          rw [HR.out, List.map_take, List.map_drop]
          exact ((HD.out.drewN _).drop p).take k, by obtain ⟨A, c, L, p, h1, h2, h3⟩ := HF.out; exact ⟨A, c, L, p, h1.drewN _, h2.drewN _, h3⟩, only_trans HO.out (only_of_gr (Gr.drawN _ _) _)⟩
    · rw [takeS_more hn]
      have ht : decide ((L.length : Int) - p < k) = true := by simp; omega
      have HB := Lib.hid hbl
      have HS := Lib.hid hbs
      clear hbl hbs
      go_enter Try.func35, Try.ntmps35
      go_wp2_with fail
      go_quiet (fail)
      go_wp2_with fail
      go_ret
      have ho := only_set (w.drewN nq) g 2 (.int .i64 8)
      have hr1 := (hr.drewN nq).set 2 (.int .i64 8)
      have hd1 := (hd.drewN nq).keep (hr.drewN nq) (ref_cells _ _ _ _ _) ho
      exact ⟨none, 0, 0, rfl, Lib.hid rfl, Rd.nil _ _, ⟨A, c, L, p, hr1, hd1, hp, HS.out, hlc, hcm⟩, only_trans (only_of_gr (Gr.drawN w nq) _) ho⟩
  · rw [takeS_err he]
    have hne : (er == 0) = false := by simp [he]
    have hne' : (er != 0) = true := by simp [he]
    have HB := Lib.hid hbl
    have HS := Lib.hid hbs
    clear hbl hbs
    go_enter Try.func35, Try.ntmps35
    go_wp2_with fail
    go_quiet (fail)
    go_wp2_with fail
    go_ret
    exact ⟨none, 0, 0, rfl, Lib.hid rfl, Rd.nil _ _, ⟨A, c, L, p, hr.drewN nq, hd.drewN nq, hp, HS.out, hlc, hcm⟩, only_of_gr (Gr.drawN w nq) _⟩
end Go.Proofs.Ytnhokgnfkljfhaa
