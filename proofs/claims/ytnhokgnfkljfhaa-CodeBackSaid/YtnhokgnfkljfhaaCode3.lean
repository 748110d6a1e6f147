/- Package code: the writers. -/
import Derived.Test.YtnhokgnfkljfhaaCode2
set_option linter.unusedVariables false
set_option linter.unusedSimpArgs false
namespace Go.Proofs.Ytnhokgnfkljfhaa
open Go.RowKit

def u64 (k : Int) : Nat := (k % 18446744073709551616).toNat
theorem u64_wrap (k : Int) : IntKind.u64.wrap k = ((u64 k : Nat) : Int) := by rw [IntKind.wrap_u64]; unfold u64; omega
theorem u64_lt (k : Int) : u64 k < 18446744073709551616 := by unfold u64; omega
def u8 (k : Int) : UInt8 := UInt8.ofNat (k % 256).toNat
theorem u8_wrap (k : Int) : Value.int .u8 (IntKind.u8.wrap k) = bv (u8 k) := by
  have h : IntKind.u8.wrap k = k % 256 := by simp [IntKind.wrap, IntKind.bits, IntKind.signed]
  rw [h]
  unfold bv u8
  congr 1
  simp
  omega

theorem le_one (n : Nat) : le n 1 = [UInt8.ofNat n] := by simp [le]
def cutS (s : ByteArray) : List UInt8 := s.data.toList.take 65535
theorem cutS_length (s : ByteArray) : (cutS s).length = min s.size 65535 := by simp [cutS]; omega

theorem hlen (l : List UInt8) : Hid (l.length = l.length) := Lib.hid rfl

theorem wInt_any (A : Option Addr) (n c : Nat) (bs : List UInt8) (k : Int) (w : World) (hn : Hid (bs.length = n)) (hx : Rd w A (bs.map bv)) (hl : n ≤ 140737488351200) :
    Calls Try.prog 12 #[.slice A n c, .int .i64 k] w (FreshB w (bs ++ le (u64 k) 8)) := by
  have hw := u64_wrap k
  have hlt := u64_lt k
  have H := Lib.hid (fun W => low_any (u64 k) 8 W hlt (by omega))
  have hl8 := Lib.hid (le_length (u64 k) 8)
  generalize hL : le (u64 k) 8 = L at *
  clear hL hlt
  generalize u64 k = v at *
  go_enter Try.func12, Try.ntmps12
  go_wp2_with (first
    | (go_at_call 32; refine (H.out _).mono ?_; rintro e w1 ⟨rfl, hr1, hg1⟩)
    | (go_at_call 31; refine (with_fresh _ _ _ _ _ _ _ _ _ hn hl8 (hx.gr hg1) (Rd.of_row' hr1) (by omega)).mono ?_; rintro e w2 ⟨g, n2, rfl, hn2, hlt2, hr2, hg2⟩))
  go_ret
  exact ⟨g, n2, rfl, hn2, by have := hg1.size; omega, hr2, hg1.trans' hg2⟩

theorem wByte_any (A : Option Addr) (n c : Nat) (bs : List UInt8) (k : Int) (w : World) (hn : Hid (bs.length = n)) (hx : Rd w A (bs.map bv)) (hl : n ≤ 140737488351200) :
    Calls Try.prog 14 #[.slice A n c, .int .i64 k] w (FreshB w (bs ++ [u8 k])) := by
  have hu := Lib.hid (u8_wrap k)
  have h1 := hlen [u8 k]
  go_enter Try.func14, Try.ntmps14
  go_wp2_with (go_at_call 31; refine (with_fresh _ _ _ _ _ _ _ _ _ hn h1 (hx.gr (Gr.alloc1 _ _)) (by have h1 := Row.new w 5 [bv (u8 k)]; rw [← hu.out] at h1; rw [List.map_cons, List.map_nil, ← hu.out]; exact Rd.of_row' h1) (by simp; omega)).mono ?_; rintro e w2 ⟨g, n2, rfl, hn2, hlt2, hr2, hg2⟩)
  go_ret
  exact ⟨g, n2, rfl, hn2, by simp at hlt2; omega, hr2, (Gr.alloc1 _ _).trans' hg2⟩

theorem cutS_small {s : ByteArray} (h : s.size ≤ 65535) : cutS s = s.data.toList := by
  unfold cutS
  exact List.take_of_length_le (by simpa using h)
theorem cutS_large {s : ByteArray} (h : 65535 < s.size) : cutS s = (s.extract 0 65535).data.toList := by
  unfold cutS
  rw [Lib.extract_data]
  simp

theorem wText_any (A : Option Addr) (n c : Nat) (bs : List UInt8) (s : ByteArray) (w : World) (hn : Hid (bs.length = n)) (hx : Rd w A (bs.map bv)) (hl : n ≤ 140737488285000) (hs : s.size ≤ maxLen) :
    Calls Try.prog 16 #[.slice A n c, .string s] w (FreshB w (bs ++ le (cutS s).length 2 ++ cutS s)) := by
  unfold maxLen at hs
  by_cases h : s.size ≤ 65535
  · rw [cutS_small h]
    have e : s.data.toList.length = s.size := by simp
    have he := Lib.hid e
    rw [e]
    have H := Lib.hid (fun W => low_any s.size 2 W (by omega) (by omega))
    have hl2 := Lib.hid (le_length s.size 2)
    clear e
    generalize hL : le s.size 2 = L at *
    clear hL
    have hlm : Hid ((bs ++ L).length = n + 2) := by have := hn.out; have := hl2.out; exact Lib.hid (by rw [List.length_append]; omega)
    go_enter Try.func16, Try.ntmps16
    go_wp2_with (first
      | (go_at_call 32; refine (H.out _).mono ?_; rintro e w1 ⟨rfl, hr1, hg1⟩)
      | (go_at_call 31; (with_reducible refine (with_fresh _ _ _ _ _ _ _ _ _ hn hl2 (hx.gr hg1) (Rd.of_row' hr1) (by omega)).mono ?_); rintro e w2 ⟨g, n2, rfl, hn2, hlt2, hr2, hg2⟩)
      | (with_reducible refine wp_conv_bytes _ rfl Try.underlying9 Try.underlying22 Try.underlying5 ?_; intro g3 c3 w3 hr3 hg3)
      | (go_at_call 31; (with_reducible refine (with_fresh _ _ _ _ _ _ _ _ _ hn2 he (Rd.of_row' (hr2.gr hg3)) hr3 (by have := hn2.out; have := hlm.out; omega)).mono ?_); rintro e w4 ⟨g4, n4, rfl, hn4, hlt4, hr4, hg4⟩))
    go_ret
    exact ⟨g4, n4, rfl, hn4, by have := hg1.size; have := hg2.size; have := hg3.size; omega, hr4, ((hg1.trans' hg2).trans' hg3).trans' hg4⟩
  · rw [cutS_large (by omega)]
    have e : (s.extract 0 65535).data.toList.length = min 65535 s.size := by simp
    have he := Lib.hid e
    rw [e]
    have H := Lib.hid (fun W => low_any (min 65535 s.size) 2 W (by omega) (by omega))
    have hl2 := Lib.hid (le_length (min 65535 s.size) 2)
    clear e
    generalize hL : le (min 65535 s.size) 2 = L at *
    clear hL
    have hlm : Hid ((bs ++ L).length = n + 2) := by have := hn.out; have := hl2.out; exact Lib.hid (by rw [List.length_append]; omega)
    go_enter Try.func16, Try.ntmps16
    go_wp2_with (first
      | (go_at_call 32; refine (H.out _).mono ?_; rintro e w1 ⟨rfl, hr1, hg1⟩)
      | (go_at_call 31; (with_reducible refine (with_fresh _ _ _ _ _ _ _ _ _ hn hl2 (hx.gr hg1) (Rd.of_row' hr1) (by omega)).mono ?_); rintro e w2 ⟨g, n2, rfl, hn2, hlt2, hr2, hg2⟩)
      | (with_reducible refine wp_conv_bytes _ rfl Try.underlying9 Try.underlying22 Try.underlying5 ?_; intro g3 c3 w3 hr3 hg3)
      | (go_at_call 31; (with_reducible refine (with_fresh _ _ _ _ _ _ _ _ _ hn2 he (Rd.of_row' (hr2.gr hg3)) hr3 (by have := hn2.out; have := hlm.out; omega)).mono ?_); rintro e w4 ⟨g4, n4, rfl, hn4, hlt4, hr4, hg4⟩))
    go_ret
    exact ⟨g4, n4, rfl, Lib.hid (by have := hn4.out; simpa using this), by have := hg1.size; have := hg2.size; have := hg3.size; omega, by simpa using hr4, ((hg1.trans' hg2).trans' hg3).trans' hg4⟩
end Go.Proofs.Ytnhokgnfkljfhaa
