/- Package code: the reader. -/
import Derived.Test.YtnhokgnfkljfhaaCode1
set_option linter.unusedVariables false
set_option linter.unusedSimpArgs false
namespace Go.Proofs.Ytnhokgnfkljfhaa
open Go.RowKit

/-- A reader: what is left, its error. -/
abbrev Rs := List UInt8 × Int
def RdrAt (w : World) (g : Nat) (s : Rs) : Prop :=
  ∃ A c, Row w g 54 [.slice A s.1.length c, .int .i64 s.2] ∧ Rd w A (s.1.map bv) ∧ s.1.length ≤ c ∧ c ≤ maxLen
def takeS (s : Rs) (n : Nat) : List UInt8 × Rs := if s.2 = 0 then (if n ≤ s.1.length then (s.1.take n, (s.1.drop n, 0)) else ([], (s.1, 8))) else ([], s)

theorem rdr_cells (A : Option Addr) (n c : Nat) (e : Int) : ∀ x ∈ [Value.slice A n c, .int .i64 e], ∀ b, bv b ≠ x := by
  intro x hx b
  simp only [List.mem_cons, List.not_mem_nil, or_false] at hx
  rcases hx with rfl | rfl
  · exact bv_ne_slice _ _ _ _
  · exact bv_ne_int _ _

theorem new_any (A : Option Addr) (c : Nat) (bs : List UInt8) (w : World) (hx : Rd w A (bs.map bv)) (hl : bs.length ≤ 140737488351232) :
    Calls Try.prog 19 #[.slice A bs.length c] w fun e w' => ∃ g, e = .returned (.pointer (some ⟨g, 0, none⟩)) ∧ w.heap.size ≤ g ∧ RdrAt w' g (bs, 0) ∧ Gr w w' := by
  go_enter Try.func19, Try.ntmps19
  go_wp2_with (go_at_call 31; refine (with_any A none c 0 bs [] _ hx (Rd.nil _ _) (by simpa using hl)).mono ?_; rintro e w1 ⟨g, rfl, hgl, hr, hgr⟩)
  go_ret
  refine ⟨w1.heap.size, rfl, hgr.size, ⟨some ⟨g, 0, none⟩, bs.length, Row.new w1 _ _, ?_, Nat.le_refl _, by unfold maxLen; simp; omega⟩, (hgr.alloc hgr.size _)⟩
  exact Rd.of_row' (t := 5) (by have h2 := hr.alloc (.cells #[.slice (some ⟨g, 0, none⟩) bs.length bs.length, .int .i64 0] 54); simpa using h2)

theorem take_more (g : Nat) (A : Option Addr) (n c : Nat) (k : Nat) (w : World) (hn : n ≤ maxLen) (hc : w.cell? ⟨g, 0, none⟩ = some (.slice A n c)) (hk : n < k) (hk2 : k ≤ maxLen) :
    Calls Try.prog 36 #[.pointer (some ⟨g, 0, none⟩), .int .i64 k] w fun e w' => e = .returned (.tuple #[.slice none 0 0, .bool false]) ∧ w = w' := by
  unfold maxLen at hn hk2
  have hk' : (n : Int) < k := by omega
  go_enter Try.func36, Try.ntmps36
  go_wp2
  go_ret2
  exact ⟨rfl, rfl⟩

theorem take_some (g : Nat) (A : Option Addr) (n c : Nat) (k : Nat) (w : World) (hn : n ≤ c) (hcm : c ≤ maxLen) (hc : w.cell? ⟨g, 0, none⟩ = some (.slice A n c)) (hf : w.frozen? ⟨g, 0, none⟩ = false) (hk : k ≤ n) :
    Calls Try.prog 36 #[.pointer (some ⟨g, 0, none⟩), .int .i64 k] w fun e w' => e = .returned (.tuple #[.slice A k c, .bool true]) ∧
      w.setCell ⟨g, 0, none⟩ (.slice (if c = k then A else A.map (·.add k)) (n - k) (c - k)) = w' := by
  unfold maxLen at hcm
  go_enter Try.func36, Try.ntmps36
  go_wp2
  all_goals
    go_ret2
    first | exact ⟨rfl, rfl⟩ | (refine ⟨?_, ?_⟩ <;> simp [*])

theorem takeS_fst_le (s : Rs) (n : Nat) : (takeS s n).1.length ≤ n := by
  unfold takeS
  split
  · split
    · simp; omega
    · simp
  · simp

/-- A slice of bytes is handed back, and the reader is in a state. -/
def OutAt (w : World) (g : Nat) (o : List UInt8 × Rs) (e : Ending) (w' : World) : Prop :=
  ∃ A c, e = .returned (.slice A o.1.length c) ∧ Rd w' A (o.1.map bv) ∧ RdrAt w' g o.2 ∧ w.grownBy w' (some g)

theorem out_none {w : World} {g : Nat} {s : Rs} (h : RdrAt w g s) : OutAt w g ([], s) (.returned (.slice none 0 0)) w :=
  ⟨none, 0, rfl, Rd.nil _ _, h, only_refl _ _⟩
theorem out_cut {w : World} {g : Nat} {bs : List UInt8} (h : RdrAt w g (bs, 0)) : OutAt w g ([], (bs, 8)) (.returned (.slice none 0 0)) (w.setCell ⟨g, 1, none⟩ (.int .i64 8)) := by
  obtain ⟨A, c, hr, hd, hlc, hcm⟩ := h
  have ho := only_set w g 1 (.int .i64 8)
  exact ⟨none, 0, rfl, Rd.nil _ _, ⟨A, c, hr.set 1 _, hd.keep hr (rdr_cells _ _ _ _) ho, hlc, hcm⟩, ho⟩
theorem out_some {w : World} {g : Nat} {bs : List UInt8} {A : Option Addr} {c k : Nat} (hr : Row w g 54 [.slice A bs.length c, .int .i64 0]) (hd : Rd w A (bs.map bv)) (hlc : bs.length ≤ c) (hcm : c ≤ maxLen) (hk : k ≤ bs.length)
    {v : Value} (hv : v = .slice (if c = k then A else A.map (·.add k)) (bs.length - k) (c - k)) :
    OutAt w g (bs.take k, (bs.drop k, 0)) (.returned (.slice A k c)) (w.setCell ⟨g, 0, none⟩ v) := by
  subst hv
  have ho := only_set w g 0 (.slice (if c = k then A else A.map (·.add k)) (bs.length - k) (c - k))
  have hd' := hd.keep hr (rdr_cells _ _ _ _) ho
  refine ⟨A, c, by simp [hk], by have := hd'.take k; simpa [List.map_take] using this, ⟨if c = k then A else A.map (·.add k), c - k, ?_, ?_, ?_, by omega⟩, ho⟩
  · have h2 := hr.set 0 (.slice (if c = k then A else A.map (·.add k)) (bs.length - k) (c - k))
    simpa using h2
  · have := hd'.cut (k := k) (cap := c) (by simpa using hk) (by simpa using hlc)
    simpa [List.map_drop] using this
  · simp; omega

theorem out_some1 {w : World} {g : Nat} {bs : List UInt8} {A : Option Addr} {c k : Nat} (hr : Row w g 54 [.slice A bs.length c, .int .i64 0]) (hd : Rd w A (bs.map bv)) (hlc : bs.length ≤ c) (hcm : c ≤ maxLen) (hk : k ≤ bs.length) (hck : c = k) :
    OutAt w g (bs.take k, (bs.drop k, 0)) (.returned (.slice A k k)) (w.setCell ⟨g, 0, none⟩ (.slice A (bs.length - k) 0)) := by
  have := out_some hr hd hlc hcm hk rfl
  rw [if_pos hck] at this
  subst hck
  simpa using this
theorem out_some2 {w : World} {g : Nat} {bs : List UInt8} {A : Option Addr} {c k : Nat} (hr : Row w g 54 [.slice A bs.length c, .int .i64 0]) (hd : Rd w A (bs.map bv)) (hlc : bs.length ≤ c) (hcm : c ≤ maxLen) (hk : k ≤ bs.length) (hck : ¬ c = k) :
    OutAt w g (bs.take k, (bs.drop k, 0)) (.returned (.slice A k c)) (w.setCell ⟨g, 0, none⟩ (.slice (A.map (·.add k)) (bs.length - k) (c - k))) := by
  have := out_some hr hd hlc hcm hk rfl
  rw [if_neg hck] at this
  exact this

theorem takeS_some {bs : List UInt8} {k : Nat} (h : k ≤ bs.length) : takeS (bs, 0) k = (bs.take k, (bs.drop k, 0)) := by simp [takeS, h]
theorem takeS_more {bs : List UInt8} {k : Nat} (h : ¬ k ≤ bs.length) : takeS (bs, 0) k = ([], (bs, 8)) := by simp [takeS, h]
theorem takeS_err {bs : List UInt8} {k : Nat} {e : Int} (h : e ≠ 0) : takeS (bs, e) k = ([], (bs, e)) := by simp [takeS, h]

/-- (*Reader).bytes -/
theorem bytes_any (g : Nat) (s : Rs) (k : Nat) (w : World) (hs : RdrAt w g s) (hk : k ≤ maxLen) :
    Calls Try.prog 33 #[.pointer (some ⟨g, 0, none⟩), .int .i64 k] w (OutAt w g (takeS s k)) := by
  obtain ⟨bs, er⟩ := s
  have hs' := hs
  obtain ⟨A, c, hr, hd, hlc, hcm⟩ := hs'
  simp only at hr hd hlc hcm
  have c0 : w.cell? ⟨g, 0, none⟩ = some (.slice A bs.length c) := by rw [hr.cell]; rfl
  have c1 : w.cell? ⟨g, 1, none⟩ = some (.int .i64 er) := by rw [hr.cell]; rfl
  have f0 := hr.frozen 0
  have f1 := hr.frozen 1
  by_cases he : er = 0
  · subst he
    by_cases hn : k ≤ bs.length
    · rw [takeS_some hn]
      go_enter Try.func33, Try.ntmps33
      go_wp2_with (go_at_call 36; refine (take_some g A bs.length c k _ hlc hcm c0 f0 hn).mono ?_; rintro e w' ⟨rfl, rfl⟩)
      all_goals
        go_ret
        first | exact out_some1 hr hd hlc hcm hn (by assumption) | exact out_some2 hr hd hlc hcm hn (by assumption)
    · rw [takeS_more hn]
      go_enter Try.func33, Try.ntmps33
      go_wp2_with (go_at_call 36; refine (take_more g A bs.length c k _ (by omega) c0 (by omega) hk).mono ?_; rintro e w' ⟨rfl, rfl⟩)
      go_ret
      exact out_cut hs
  · rw [takeS_err he]
    have hne : (er != 0) = true := by simp [he]
    go_enter Try.func33, Try.ntmps33
    go_wp2
    go_ret
    exact out_none hs

/-- Bytes as a number, the lowest first. -/
def num : List UInt8 → Nat
  | [] => 0
  | b :: r => b.toNat + 256 * num r
theorem num_lt (l : List UInt8) : num l < 256 ^ l.length := by
  induction l with
  | nil => simp [num]
  | cons b r ih =>
    have hb := b.toNat_lt
    simp only [num, List.length_cons, Nat.pow_succ]
    omega
theorem num_snoc (l : List UInt8) (b : UInt8) : num (l ++ [b]) = num l + 256 ^ l.length * b.toNat := by
  induction l with
  | nil => simp [num]
  | cons x r ih =>
    have e : 256 ^ r.length * 256 * b.toNat = 256 * (256 ^ r.length * b.toNat) := by rw [Nat.mul_comm (256 ^ r.length) 256, Nat.mul_assoc]
    simp only [List.cons_append, num, ih, List.length_cons, Nat.pow_succ, e]
    omega
theorem pow256 (j : Nat) : (256 : Nat) ^ j = 2 ^ (8 * j) := by rw [show (256 : Nat) = 2 ^ 8 from rfl, ← Nat.pow_mul]
theorem num_or (l : List UInt8) (b : UInt8) (hl : l.length < 8) :
    bits .or .u64 (num l : Int) (IntKind.u64.wrap (IntKind.u64.wrap (b.toNat : Int) * 2 ^ (8 * l.length))) = (num (l ++ [b]) : Int) := by
  have hn := num_lt l
  have hb := b.toNat_lt
  have hp : 256 ^ l.length * 256 ≤ 18446744073709551616 := by
    have : 256 ^ (l.length + 1) ≤ 256 ^ 8 := Nat.pow_le_pow_right (by omega) (by omega)
    rw [Nat.pow_succ] at this
    simpa using this
  have hm : b.toNat * 256 ^ l.length < 18446744073709551616 := Nat.lt_of_lt_of_le (by rw [Nat.mul_comm]; exact Nat.mul_lt_mul_of_pos_left hb (Nat.pow_pos (by omega))) hp
  have e1 : IntKind.u64.wrap (b.toNat : Int) = b.toNat := by rw [IntKind.wrap_u64]; omega
  have e2 : (b.toNat : Int) * 2 ^ (8 * l.length) = ((b.toNat * 256 ^ l.length : Nat) : Int) := by rw [pow256]; push_cast; rfl
  have e3 : IntKind.u64.wrap ((b.toNat * 256 ^ l.length : Nat) : Int) = ((b.toNat * 256 ^ l.length : Nat) : Int) := by rw [IntKind.wrap_u64]; omega
  have h1 : num l < 18446744073709551616 := Nat.lt_of_lt_of_le hn (Nat.le_trans (Nat.le_mul_of_pos_right _ (by omega)) hp)
  rw [e1, e2, e3, u64_or_nat _ _ h1 hm, num_snoc, pow256, Nat.or_comm, Nat.mul_comm (2 ^ _) b.toNat]
  rw [pow256] at hn
  have := Nat.two_pow_add_eq_or_of_lt hn b.toNat
  rw [Nat.mul_comm] at this
  rw [← this]
  omega

/-- A number is handed back, and the reader is in a state. -/
def NumAt (k : IntKind) (w : World) (g : Nat) (n : Int) (s : Rs) (e : Ending) (w' : World) : Prop :=
  e = .returned (.int k n) ∧ RdrAt w' g s ∧ w.grownBy w' (some g)

theorem number_any (g : Nat) (s : Rs) (k : Nat) (w : World) (hs : RdrAt w g s) (hk : k ≤ 8) :
    Calls Try.prog 34 #[.pointer (some ⟨g, 0, none⟩), .int .i64 k] w (NumAt .u64 w g (num (takeS s k).1) (takeS s k).2) := by
  have hle := takeS_fst_le s k
  have H := Lib.hid (bytes_any g s k w hs (by unfold maxLen; omega))
  generalize takeS s k = o at *
  obtain ⟨out, s'⟩ := o
  simp only at hle
  go_enter Try.func34, Try.ntmps34
  go_wp2_with (go_at_call 33; refine H.out.mono ?_; rintro e w1 ⟨A, c, rfl, hd, hr, ho⟩)
  go_loop [5, 12] (fun v i => ∃ j : Nat, j ≤ out.length ∧ i = .int .i64 j ∧ v = .int .u64 (num (out.take j))) (fun _ i => out.length - (intOf i).toNat)
  case atStart => exact ⟨0, Nat.zero_le _, rfl, rfl⟩
  case round =>
    obtain ⟨j, hj, rfl, rfl⟩ := hrel
    by_cases hlt : j < out.length
    · obtain ⟨ad, rfl, hc⟩ := hd.at_ (k := j) (by simpa using hlt)
      simp only [List.getElem_map, bv] at hc
      have hl : (out.take j).length = j := by simp; omega
      have HE := Lib.hid (num_or (out.take j) out[j] (by omega))
      go_wp2
      go_round
      case rel => exact ⟨j + 1, by omega, by go_num, by
        have e := HE.out
        rw [hl] at e
        rw [e, List.take_succ_eq_append_getElem hlt]⟩
      case measure => simp [intOf]; omega
    · obtain rfl : j = out.length := by omega
      go_wp2
      go_ret
      exact ⟨by simp, hr, ho⟩

/-! ### The reader's methods -/
def byteS (s : Rs) : Int × Rs := ((num (takeS s 1).1 : Int), (takeS s 1).2)
def intS (s : Rs) : Int × Rs := (wrap64 (num (takeS s 8).1 : Int), (takeS s 8).2)
def textS (s : Rs) : List UInt8 × Rs := takeS (takeS s 2).2 (num (takeS s 2).1)
def endS (s : Rs) : Int := if s.2 = 0 ∧ 0 < s.1.length then 9 else s.2
def failS (s : Rs) (e : Int) : Rs := if s.2 = 0 then (s.1, e) else s

theorem num_small (s : Rs) (k : Nat) (hk : k ≤ 2) : num (takeS s k).1 < 65536 := by
  have h := num_lt (takeS s k).1
  have h2 : 256 ^ (takeS s k).1.length ≤ 256 ^ 2 := Nat.pow_le_pow_right (by omega) (Nat.le_trans (takeS_fst_le s k) hk)
  omega

theorem rByte_any (g : Nat) (s : Rs) (w : World) (hs : RdrAt w g s) :
    Calls Try.prog 23 #[.pointer (some ⟨g, 0, none⟩)] w (NumAt .i64 w g (byteS s).1 (byteS s).2) := by
  have hlt := num_small s 1 (by omega)
  have H := Lib.hid (number_any g s 1 w hs (by omega))
  unfold byteS
  generalize takeS s 1 = o at *
  obtain ⟨out, s'⟩ := o
  simp only at hlt ⊢
  go_enter Try.func23, Try.ntmps23
  go_wp2_with (go_at_call 34; refine H.out.mono ?_; rintro e w1 ⟨rfl, hr, ho⟩)
  go_ret
  exact ⟨rfl, hr, ho⟩

theorem rInt_any (g : Nat) (s : Rs) (w : World) (hs : RdrAt w g s) :
    Calls Try.prog 22 #[.pointer (some ⟨g, 0, none⟩)] w (NumAt .i64 w g (intS s).1 (intS s).2) := by
  have H := Lib.hid (number_any g s 8 w hs (by omega))
  unfold intS
  generalize takeS s 8 = o at *
  obtain ⟨out, s'⟩ := o
  go_enter Try.func22, Try.ntmps22
  go_wp2_with (go_at_call 34; refine H.out.mono ?_; rintro e w1 ⟨rfl, hr, ho⟩)
  go_ret
  exact ⟨rfl, hr, ho⟩

/-- A string is handed back, and the reader is in a state. -/
def StrAt (w : World) (g : Nat) (o : List UInt8 × Rs) (e : Ending) (w' : World) : Prop :=
  e = .returned (.string ⟨o.1.toArray⟩) ∧ RdrAt w' g o.2 ∧ w.grownBy w' (some g)

theorem rText_any (g : Nat) (s : Rs) (w : World) (hs : RdrAt w g s) :
    Calls Try.prog 20 #[.pointer (some ⟨g, 0, none⟩)] w (StrAt w g (textS s)) := by
  have hlt := num_small s 2 (by omega)
  have H := Lib.hid (number_any g s 2 w hs (by omega))
  have H2 : ∀ W, RdrAt W g (takeS s 2).2 → Calls Try.prog 33 #[.pointer (some ⟨g, 0, none⟩), .int .i64 (num (takeS s 2).1)] W (OutAt W g (textS s)) :=
    fun W h => bytes_any g _ _ W h (by unfold maxLen; omega)
  replace H2 := Lib.hid H2
  generalize textS s = o2 at *
  generalize takeS s 2 = o at *
  obtain ⟨out, s'⟩ := o
  obtain ⟨txt, s2⟩ := o2
  simp only at hlt
  go_enter Try.func20, Try.ntmps20
  go_wp2_with (first
    | (go_at_call 34; refine H.out.mono ?_; rintro e w1 ⟨rfl, hr, ho⟩)
    | (go_at_call 33; refine (H2.out _ (by assumption)).mono ?_; rintro e w2 ⟨A, c, rfl, hd, hr2, ho2⟩; have hcv := run_str hd 22 9 5 _ c rfl Try.underlying22 Try.underlying5 Try.underlying9))
  go_ret
  exact ⟨rfl, hr2, only_trans ho ho2⟩

def BoolEndAt (w : World) (n : Int) (e : Ending) (w' : World) : Prop := e = .returned (.int .i64 n) ∧ w = w'

theorem rEnd_any (g : Nat) (s : Rs) (w : World) (hs : RdrAt w g s) :
    Calls Try.prog 21 #[.pointer (some ⟨g, 0, none⟩)] w fun e w' => e = .returned (.int .i64 (endS s)) ∧ w = w' := by
  obtain ⟨bs, er⟩ := s
  obtain ⟨A, c, hr, hd, hlc, hcm⟩ := hs
  simp only at hr hd hlc hcm
  unfold maxLen at hcm
  have c0 : w.cell? ⟨g, 0, none⟩ = some (.slice A bs.length c) := by rw [hr.cell]; rfl
  have c1 : w.cell? ⟨g, 1, none⟩ = some (.int .i64 er) := by rw [hr.cell]; rfl
  unfold endS
  by_cases he : er = 0
  · subst he
    by_cases hn : 0 < bs.length
    · rw [if_pos ⟨rfl, hn⟩]
      go_enter Try.func21, Try.ntmps21
      go_wp2
      go_ret
      exact ⟨rfl, rfl⟩
    · rw [if_neg (fun h => hn h.2)]
      go_enter Try.func21, Try.ntmps21
      go_wp2
      go_ret
      exact ⟨rfl, rfl⟩
  · rw [if_neg (fun h => he h.1)]
    have hne : (er == 0) = false := by simp [he]
    go_enter Try.func21, Try.ntmps21
    go_wp2
    go_ret
    exact ⟨rfl, rfl⟩

theorem rFail_any (g : Nat) (s : Rs) (k : Int) (w : World) (hs : RdrAt w g s) :
    Calls Try.prog 28 #[.pointer (some ⟨g, 0, none⟩), .int .i64 k] w fun e w' => e = .returned (.tuple #[]) ∧ RdrAt w' g (failS s k) ∧ w.grownBy w' (some g) := by
  obtain ⟨bs, er⟩ := s
  have hs' := hs
  obtain ⟨A, c, hr, hd, hlc, hcm⟩ := hs'
  simp only at hr hd hlc hcm
  have c1 : w.cell? ⟨g, 1, none⟩ = some (.int .i64 er) := by rw [hr.cell]; rfl
  have f1 := hr.frozen 1
  have ho := only_set w g 1 (.int .i64 k)
  have hfin : RdrAt (w.setCell ⟨g, 1, none⟩ (.int .i64 k)) g (bs, k) := ⟨A, c, hr.set 1 _, hd.keep hr (rdr_cells _ _ _ _) ho, hlc, hcm⟩
  have HF := Lib.hid hfin
  have HO := Lib.hid ho
  clear hfin ho
  unfold failS
  by_cases he : er = 0
  · subst he
    go_enter Try.func28, Try.ntmps28
    go_wp2
    refine bodyPost_end (results_none rfl _ _ _) rfl ⟨rfl, ?_, ?_⟩
    · simpa using HF.out
    · exact HO.out
  · have hne : (er == 0) = false := by simp [he]
    go_enter Try.func28, Try.ntmps28
    go_wp2
    refine bodyPost_end (results_none rfl _ _ _) rfl ⟨rfl, ?_, only_refl _ _⟩
    simpa [he] using hs
end Go.Proofs.Ytnhokgnfkljfhaa
