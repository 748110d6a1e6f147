/- The walk of CodeWrites. -/
import Derived.Test.YtnhokgnfkljfhaaLaw0
import Derived.Test.YtnhokgnfkljfhaaOpen
set_option linter.unusedVariables false
set_option linter.unusedSimpArgs false
namespace Go.Proofs.Ytnhokgnfkljfhaa.codeWrites
open Go.RowKit

attribute [local go_sem] Vc.known_tmp Vc.known_const Vc.known_func Vc.known_global Vc.lk Vc.okUpon Vc.Fact.holds

set_option maxHeartbeats 4000000 in
theorem walk (w : World) (a0 : Option Addr) (n0 c0 : Nat) (x0 : List UInt8) (hn0 : Hid (x0.length = n0)) (hr0 : Rd w a0 (x0.map bv)) (hl0 : n0 ≤ c0) (hc0 : c0 ≤ maxLen)
    (x1 : Int) (h1 : -9223372036854775808 ≤ x1) (h1' : x1 ≤ 9223372036854775807) (x2 : ByteArray) (h2 : x2.size ≤ maxLen) :
    Calls Try.prog 3 #[.slice a0 n0 c0, .int .i64 x1, .string x2] w fun e w' => e = .returned (.bool true) ∧ Below w.heap.size w w' := by
  obtain ⟨i0, hi, hz0, hz1, hz2⟩ := info_parts info_u8
  by_cases hb : 300 < n0
  · go_enter Try.func3, Try.ntmps3
    go_wp2_with (go_at_call 11; refine (known1_any _).mono ?_; rintro e w1 ⟨rfl, hg1⟩)
    go_ret
    exact ⟨rfl, hg1⟩
  by_cases hs : 500 < x2.size
  · go_enter Try.func3, Try.ntmps3
    go_wp2_with (go_at_call 11; refine (known1_any _).mono ?_; rintro e w1 ⟨rfl, hg1⟩)
    go_ret
    exact ⟨rfl, hg1⟩
  have hl0' : (x0.map bv).length = n0 * 1 := by have := hn0.out; simpa using this
  have HL := Lib.hid hl0'
  clear hl0'
  go_enter Try.func3, Try.ntmps3
  go_wp2_with (first
    | (go_at_call 11; refine (known1_any _).mono ?_; rintro e w1 ⟨rfl, hg1⟩)
    | (at_builtin; with_reducible refine wpList_append (o := ⟨some 20, _, _, _, _, _⟩) _ rfl _ _ 22 rfl w1.heap.size 5 i0 _ 1 1 Try.underlying22 hi hz0 hz1 hz2 rfl (by omega) _ 0 0 [] rfl (Own.empty _ _ _) _ _ _ _ rfl HL.out (hr0.gr (hg1.trans' (Gr.alloc1 _ _))) (bv_one _) (by omega) (by unfold maxLen; omega) (Gr.alloc1 _ _).size ?_
       intro A2 c2 w2 hown hk))
  simp only [Nat.zero_add, List.nil_append] at hown
  have hb2 : Below w.heap.size w w2 := (hg1.trans' (Gr.alloc1 _ _)).trans (hk.below (fun g h => by cases h; exact hg1.size) (Nat.le_trans hg1.size (Gr.alloc1 _ _).size))
  have hB2 : w1.heap.size ≤ w2.heap.size := Nat.le_trans (Gr.alloc1 _ _).size hk.grown.size
  clear hk
  refine Vc.wp_region_facts ⟨Gr, fun _ W W' => W.grownBy W' (blkOf A2), fun _ W => Own W w1.heap.size 5 1 A2 n0 c2 (x0.map bv) ∧ Below w.heap.size w W ∧ w1.heap.size ≤ W.heap.size, [6, 16, 27]⟩ (by kernel_rfl) (by kernel_rfl) ?_ ?_ ?_
  · rintro k W W' hl ⟨h1, h2, h3⟩
    exact ⟨h1.gr hl, h2.trans (hl.mono h2.size), Nat.le_trans h3 hl.size⟩
  · exact ⟨hown.drew, hb2.drew, hB2⟩
  have hG : ∀ {W W' : World}, Own W w1.heap.size 5 1 A2 n0 c2 (x0.map bv) ∧ Below w.heap.size w W ∧ w1.heap.size ≤ W.heap.size → ∀ {A' n' c'} {ys : List UInt8}, AppTo W w1.heap.size 5 1 A2 (x0.map bv) W' A' n' c' (ys.map bv) →
      Own W' w1.heap.size 5 1 A2 n0 c2 (x0.map bv) ∧ Below w.heap.size w W' ∧ w1.heap.size ≤ W'.heap.size := by
    rintro W W' ⟨h1, h2, h3⟩ A' n' c' ys hto
    exact ⟨h1.back hto.keep, h2.grown hto.grown (Nat.le_trans hg1.size h3) (fun k hk => Nat.le_trans hg1.size (h1.blk k hk).1), Nat.le_trans h3 hto.size⟩
  have HG := @Lib.hid _ @hG
  clear hG
  repeat
    refine Vc.Walk.pure (v := ?_) (fun _ => Gr.rfl' _) rfl (by first | exact Vc.GuardYes.no rfl | exact Vc.GuardYes.yes rfl rfl) rfl rfl ?_ ?_
    rotate_left
    · intro _ W hI
      skip
      go_simp
      exact rfl
  -- code.Int
  refine Vc.Walk.call (.fits (Vc.All (FB A2 (x0 ++ le (u64 x1) 8)))) (Vc.All.stable (fun u W W' => FB.gr) (fun k u W W' _ => FB.grown)) (.no rfl) rfl rfl ?_ ?_
  · intro k W hI
    obtain ⟨g1, g2, g3⟩ := hI.g
    clear hI
    go_simp
    refine (wInt_any a0 n0 c0 x0 x1 W hn0 (hr0.gr g2) (by omega)).mono fun e W' h => ?_
    exact FB.of h (fun g hg => (g1.blk g hg).2)
  refine Vc.Walk.str (x0 ++ le (u64 x1) 8) (fun _ => Gr.rfl' _) rfl (.no rfl) Try.underlying22 Try.underlying5 Try.underlying9 (fun k W u _ h => FB.rb h) ?_
  repeat
    refine Vc.Walk.pure (v := ?_) (fun _ => Gr.rfl' _) rfl (by first | exact Vc.GuardYes.no rfl | exact Vc.GuardYes.yes rfl rfl) rfl rfl ?_ ?_
    rotate_left
    · intro _ W hI
      skip
      go_simp
      exact rfl
  -- ref.Int
  refine Vc.Walk.call (.fits (Vc.At 1 (RB (x0 ++ le (u64 x1) 8)))) (Vc.At.stable (fun u W W' => RB.gr)) (.no rfl) rfl rfl ?_ ?_
  · intro k W hI
    obtain rfl := hI.eq 0 rfl
    have g0 := hI.g
    obtain ⟨g1, g2, g3⟩ := g0
    go_simp
    refine (xInt_any w1.heap.size A2 n0 c2 x0 x1 W hn0 g1 g3 (by omega)).mono ?_
    rintro e W' ⟨A', n', c', rfl, hn', hto⟩
    exact ⟨_, rfl, ⟨Nat.le_refl _, fun _ => ⟨A', n', c', rfl, hn', hto.own.rd⟩⟩, hto.grown, HG.out hI.g hto⟩
  refine Vc.Walk.str (x0 ++ le (u64 x1) 8) (fun _ => Gr.rfl' _) rfl (.no rfl) Try.underlying22 Try.underlying5 Try.underlying9 (fun k W u hI h => h.2 (hI.le 1 16 rfl (by kernel_rfl))) ?_
  repeat
    refine Vc.Walk.pure (v := ?_) (fun _ => Gr.rfl' _) rfl (by first | exact Vc.GuardYes.no rfl | exact Vc.GuardYes.yes rfl rfl) rfl rfl ?_ ?_
    rotate_left
    · intro _ W hI
      skip
      go_simp
      exact rfl
  -- code.Byte
  refine Vc.Walk.call (.fits (Vc.All (FB A2 (x0 ++ [u8 x1])))) (Vc.All.stable (fun u W W' => FB.gr) (fun k u W W' _ => FB.grown)) (.yes rfl rfl) rfl rfl ?_ ?_
  · intro k W hI
    obtain ⟨g1, g2, g3⟩ := hI.g
    clear hI
    go_simp
    refine (wByte_any a0 n0 c0 x0 x1 W hn0 (hr0.gr g2) (by omega)).mono fun e W' h => ?_
    exact FB.of h (fun g hg => (g1.blk g hg).2)
  refine Vc.Walk.str (x0 ++ [u8 x1]) (fun _ => Gr.rfl' _) rfl (.yes rfl rfl) Try.underlying22 Try.underlying5 Try.underlying9 (fun k W u _ h => FB.rb h) ?_
  repeat
    refine Vc.Walk.pure (v := ?_) (fun _ => Gr.rfl' _) rfl (by first | exact Vc.GuardYes.no rfl | exact Vc.GuardYes.yes rfl rfl) rfl rfl ?_ ?_
    rotate_left
    · intro _ W hI
      skip
      go_simp
      exact rfl
  -- ref.Byte
  refine Vc.Walk.call (.fits (Vc.At 2 (RB (x0 ++ [u8 x1])))) (Vc.At.stable (fun u W W' => RB.gr)) (.yes rfl rfl) rfl rfl ?_ ?_
  · intro k W hI
    obtain rfl := hI.eq 1 rfl
    have g0 := hI.g
    obtain ⟨g1, g2, g3⟩ := g0
    go_simp
    refine (xByte_any w1.heap.size A2 n0 c2 x0 x1 W hn0 g1 g3 (by omega)).mono ?_
    rintro e W' ⟨A', n', c', rfl, hn', hto⟩
    exact ⟨_, rfl, ⟨Nat.le_refl _, fun _ => ⟨A', n', c', rfl, hn', hto.own.rd⟩⟩, hto.grown, HG.out hI.g hto⟩
  refine Vc.Walk.str (x0 ++ [u8 x1]) (fun _ => Gr.rfl' _) rfl (.yes rfl rfl) Try.underlying22 Try.underlying5 Try.underlying9 (fun k W u hI h => h.2 (hI.le 2 27 rfl (by kernel_rfl))) ?_
  repeat
    refine Vc.Walk.pure (v := ?_) (fun _ => Gr.rfl' _) rfl (by first | exact Vc.GuardYes.no rfl | exact Vc.GuardYes.yes rfl rfl) rfl rfl ?_ ?_
    rotate_left
    · intro _ W hI
      skip
      go_simp
      exact rfl
  -- code.Text
  refine Vc.Walk.call (.fits (Vc.All (FB A2 (x0 ++ (le (cutS x2).length 2 ++ cutS x2))))) (Vc.All.stable (fun u W W' => FB.gr) (fun k u W W' _ => FB.grown)) (.yes rfl rfl) rfl rfl ?_ ?_
  · intro k W hI
    obtain ⟨g1, g2, g3⟩ := hI.g
    clear hI
    go_simp
    have HT := wText_any a0 n0 c0 x0 x2 W hn0 (hr0.gr g2) (by omega) h2
    rw [List.append_assoc] at HT
    refine HT.mono fun e W' h => ?_
    exact FB.of h (fun g hg => (g1.blk g hg).2)
  refine Vc.Walk.str (x0 ++ (le (cutS x2).length 2 ++ cutS x2)) (fun _ => Gr.rfl' _) rfl (.yes rfl rfl) Try.underlying22 Try.underlying5 Try.underlying9 (fun k W u _ h => FB.rb h) ?_
  repeat
    refine Vc.Walk.pure (v := ?_) (fun _ => Gr.rfl' _) rfl (by first | exact Vc.GuardYes.no rfl | exact Vc.GuardYes.yes rfl rfl) rfl rfl ?_ ?_
    rotate_left
    · intro _ W hI
      skip
      go_simp
      exact rfl
  -- ref.Text
  refine Vc.Walk.call (.fits (Vc.At 3 (RB (x0 ++ (le (cutS x2).length 2 ++ cutS x2))))) (Vc.At.stable (fun u W W' => RB.gr)) (.yes rfl rfl) rfl rfl ?_ ?_
  · intro k W hI
    obtain rfl := hI.eq 2 rfl
    have g0 := hI.g
    obtain ⟨g1, g2, g3⟩ := g0
    go_simp
    have HT := xText_any w1.heap.size A2 n0 c2 x0 x2 W hn0 g1 g3 (by omega) h2
    rw [List.append_assoc] at HT
    refine HT.mono ?_
    rintro e W' ⟨A', n', c', rfl, hn', hto⟩
    exact ⟨_, rfl, ⟨Nat.le_refl _, fun _ => ⟨A', n', c', rfl, hn', hto.own.rd⟩⟩, hto.grown, HG.out hI.g hto⟩
  refine Vc.Walk.str (x0 ++ (le (cutS x2).length 2 ++ cutS x2)) (fun _ => Gr.rfl' _) rfl (.yes rfl rfl) Try.underlying22 Try.underlying5 Try.underlying9 (fun k W u hI h => h.2 hI.top) ?_
  repeat
    refine Vc.Walk.pure (v := ?_) (fun _ => Gr.rfl' _) rfl (by first | exact Vc.GuardYes.no rfl | exact Vc.GuardYes.yes rfl rfl) rfl rfl ?_ ?_
    rotate_left
    · intro _ W hI
      skip
      go_simp
      exact rfl
  intro W hW
  obtain ⟨g1, g2, g3⟩ := hW
  simp only [List.reverse_cons, List.reverse_nil, List.nil_append, List.cons_append, Vc.finish, Act.put]
  intro u1 _ u2 _ u3 _ u4 _ u5 _ u6 _
  go_wp2_with fail
  go_ret
  refine ⟨?_, g2⟩
  go_simp
end Go.Proofs.Ytnhokgnfkljfhaa.codeWrites
