/-
  The statement of 'CommitRefuses': the Go function returns true at every input, and its arguments read as before.
  Conditions: none.
-/
import Derived.Test.YtcfbkhgdlgnmgaaMCommitRefuses2
import Derived.Test.YtcfbkhgdlgnmgaaRows
set_option linter.unusedVariables false
set_option linter.unusedSimpArgs false
set_option maxRecDepth 100000
namespace Go.Proofs.Ytcfbkhgdlgnmgaa.commitRefuses
open Go.RowKit
theorem may_commit {s : V} {l : List Fl} {e : Int} (h : mayM l = e) (he : e ≠ 0) : commitM s l = (s, e) := by
  unfold commitM
  rw [if_pos (by rw [h]; exact he), h]
section
variable {X : Nat → Prop} {w w0 w4 W : World} {p : Nat} {s : V} {e0 : Int} {A : Option Addr} {rs : List FlR} {Z : Nat → Prop}
theorem rf_commit (hS : Sv w0 w4 X p s) (hg : Gr w4 W) (hd : Sd s) (hf : FlS W (fun i => w4.heap.size ≤ i ∧ i < W.heap.size) A rs) (n c : Nat) (hn : rs.length = n) (hl : n ≤ 255) (hc : n ≤ c) (hb : ∀ f ∈ rs, f.q.n ≤ 1000000) (he : commitM s (rs.map FlR.fl) = (s, e0)) :
    Calls Try.prog 19 #[.pointer (some ⟨p, 0, none⟩), .slice A n c] W fun e W' => e = .returned (.int .i64 e0) ∧ ∃ X', Sv w0 W' X' p s := by
  subst hn
  refine (commit_any (hS.at_.gr hg) hd hf (fun i hi => ⟨fun hx => by have := hS.at_.lt i hx; omega, hi.2⟩) c hl hc hb).mono ?_
  rintro e W' ⟨rfl, X', ha, hm⟩
  rw [he] at ha ⊢
  exact ⟨rfl, X', (hS.more hg).step ha hm⟩
theorem rw_one {b : Nat} {v : UInt8} (h : Row W b 5 [bv v]) : Rw.Ok W ⟨some ⟨b, 0, none⟩, 1, 1, [v]⟩ := ⟨Lib.hid rfl, Rd.of_row' h, Nat.le_refl _, show 1 ≤ maxLen from by unfold maxLen; omega⟩
theorem fls3 {g : Nat} {n1 n2 n3 : Str} {q1 q2 q3 : Rw} (hr : Row W g 31 [encStr n1, q1.val, encStr n2, q2.val, encStr n3, q3.val]) (h1 : q1.Ok W) (h2 : q2.Ok W) (h3 : q3.Ok W)
    (k1 : n1.length ≤ maxLen) (k2 : n2.length ≤ maxLen) (k3 : n3.length ≤ maxLen) (zg : Z g) (z1 : ∀ ad, q1.A = some ad → Z ad.block) (z2 : ∀ ad, q2.A = some ad → Z ad.block) (z3 : ∀ ad, q3.A = some ad → Z ad.block) :
    FlS W Z (some ⟨g, 0, none⟩) [⟨n1, q1⟩, ⟨n2, q2⟩, ⟨n3, q3⟩] := by
  refine ⟨Rd.of_row' hr, fun _ ad e => by injection e with e; subst e; exact zg, fun f hf => ?_⟩
  simp only [List.mem_cons, List.not_mem_nil, or_false] at hf
  rcases hf with rfl | rfl | rfl
  · exact ⟨h1, k1, fun _ => z1⟩
  · exact ⟨h2, k2, fun _ => z2⟩
  · exact ⟨h3, k3, fun _ => z3⟩
structure Lit3 (w4 W : World) (g b1 b2 b3 : Nat) : Prop where
  r1 : Row W b1 5 [bv 1]
  r2 : Row W b2 5 [bv 2]
  r3 : Row W b3 5 [bv 3]
  rf : Row W g 31 [encStr [97], .slice (some ⟨b1, 0, none⟩) 1 1, encStr [98], .slice (some ⟨b2, 0, none⟩) 1 1, encStr [111], .slice (some ⟨b3, 0, none⟩) 1 1]
  gr : Gr w4 W
  l1 : w4.heap.size ≤ b1
  l2 : b1 < b2
  l3 : b2 < b3
  l4 : b3 < g
theorem sz_alloc (w : World) (o : Obj) : (w.alloc o).heap.size = w.heap.size + 1 := by simp [World.alloc, -World.alloc_eq]
theorem row_new (w : World) (t : TypeId) (xs : List Value) {b : Nat} (h : w.heap.size = b) : Row (w.alloc (.cells xs.toArray t)) b t xs := h ▸ Row.new w t xs
theorem lit3 {w4 w5 : World} (h : (((w4.alloc (.cells #[.int .u8 1] 5)).alloc (.cells #[.int .u8 2] 5)).alloc (.cells #[.int .u8 3] 5)).alloc
    (.cells #[.string ⟨#[97]⟩, .slice (some ⟨w4.heap.size, 0, none⟩) 1 1, .string ⟨#[98]⟩, .slice (some ⟨w4.heap.size + 1, 0, none⟩) 1 1, .string ⟨#[111]⟩, .slice (some ⟨w4.heap.size + 1 + 1, 0, none⟩) 1 1] 31) = w5) :
    Lit3 w4 w5 (w4.heap.size + 1 + 1 + 1) w4.heap.size (w4.heap.size + 1) (w4.heap.size + 1 + 1) := by
  subst h
  have s1 := sz_alloc w4 (.cells #[.int .u8 1] 5)
  have s2 := sz_alloc (w4.alloc (.cells #[.int .u8 1] 5)) (.cells #[.int .u8 2] 5)
  have s3 := sz_alloc ((w4.alloc (.cells #[.int .u8 1] 5)).alloc (.cells #[.int .u8 2] 5)) (.cells #[.int .u8 3] 5)
  rw [s1] at s2
  rw [s2] at s3
  exact ⟨(((row_new w4 _ [bv 1] rfl).alloc _).alloc _).alloc _, ((row_new _ _ [bv 2] s1).alloc _).alloc _, (row_new _ _ [bv 3] s2).alloc _, row_new _ _ [encStr [97], .slice (some ⟨w4.heap.size, 0, none⟩) 1 1, encStr [98], .slice (some ⟨w4.heap.size + 1, 0, none⟩) 1 1, encStr [111], .slice (some ⟨w4.heap.size + 1 + 1, 0, none⟩) 1 1] s3,
    (((Gr.alloc1 w4 _).trans' (Gr.alloc1 _ _)).trans' (Gr.alloc1 _ _)).trans' (Gr.alloc1 _ _), Nat.le_refl _, by omega, by omega, by omega⟩
theorem Lit3.gr_set {g b1 b2 b3 : Nat} (h : Lit3 w4 W g b1 b2 b3) (hg : Gr W w) (hw : w.heap.size ≥ W.heap.size) (i : Nat) (v : Value) : Gr w4 (w.setCell ⟨g, i, none⟩ v) :=
  Gr.grownBk (h.gr.trans' hg) (only_set w g i v) (fun g' e => by injection e with e; have := h.l1; have := h.l2; have := h.l3; have := h.l4; omega)
theorem Lit3.rows {g b1 b2 b3 : Nat} (h : Lit3 w4 W g b1 b2 b3) (hg : Gr W w) (i : Nat) (v : Value) :
    Row (w.setCell ⟨g, i, none⟩ v) b1 5 [bv 1] ∧ Row (w.setCell ⟨g, i, none⟩ v) b2 5 [bv 2] ∧ Row (w.setCell ⟨g, i, none⟩ v) b3 5 [bv 3] := by
  have := h.l2
  have := h.l3
  have := h.l4
  exact ⟨(h.r1.gr hg).far (by show b1 ≠ g; omega) v, (h.r2.gr hg).far (by show b2 ≠ g; omega) v, (h.r3.gr hg).far (by show b3 ≠ g; omega) v⟩
theorem set_size (w : World) (a : Addr) (v : Value) : (w.setCell a v).heap.size = w.heap.size := by simp [World.setCell]
theorem new_ops (r : Int) {W : World} (hS : Sv w0 W X p (V.new r)) : Calls Try.prog 24 #[.pointer (some ⟨p, 0, none⟩)] W fun e W' => e = .returned (.int .i64 0) ∧ W' = W := ops_any hS.at_
theorem new_names (r : Int) {W : World} (hS : Sv w0 W X p (V.new r)) : Calls Try.prog 23 #[.pointer (some ⟨p, 0, none⟩)] W fun e W' => (∃ A c, e = .returned (.slice A 0 c)) ∧ Sv w0 W' X p (V.new r) := by
  refine (names_any hS.at_ ⟨Nat.zero_le _, Nat.zero_le _⟩).mono ?_
  rintro e W' ⟨A', n', c', rfl, hn', _, hg⟩
  obtain rfl : n' = 0 := hn'
  exact ⟨⟨A', c', rfl⟩, hS.more hg⟩
theorem mk_zeros (w : World) (l : Int) (n : Nat) (hl : l = n) (h : n ≤ 100000) :
    (Instr.makeSlice 29 (.int .i64 l) (.int .i64 l)).run Try.prog w = .ok (.slice (some ⟨w.heap.size, 0, none⟩) n n) (w.alloc (.cells ((List.replicate n (0 : UInt8)).map bv).toArray 5)) := by
  obtain ⟨i0, hi0, hz0, hz1, hz2⟩ := info_parts Cd.info_u8
  have hmk := run_make (P := Try.prog) w 29 5 i0 _ Try.underlying29 hi0 hz0 .i64 .i64 l l (by omega) (by omega) (by rw [hz2]; omega) (by omega)
  subst hl
  simp only [Int.toNat_natCast, hz1, made_one (.int .u8 0) rfl] at hmk
  rw [hmk]
  simp [bv]
end
theorem mk_str (w : World) (l : Int) (n : Nat) (hl : l = n) (h : n ≤ 100000) :
    ∃ (zs : Str) (Wm : World), zs = List.replicate n 0 ∧ (Instr.makeSlice 29 (.int .i64 l) (.int .i64 l)).run Try.prog w = .ok (.slice (some ⟨w.heap.size, 0, none⟩) n n) Wm ∧
      (convert 29 9 (.slice (some ⟨w.heap.size, 0, none⟩) n n)).run Try.prog Wm = .ok (.string ⟨zs.toArray⟩) Wm ∧ Gr w Wm ∧ Rd Wm (some ⟨w.heap.size, 0, none⟩) (zs.map bv) ∧ Wm.heap.size = w.heap.size + 1 := by
  have hrd := Rd.new w ((List.replicate n (0 : UInt8)).map bv) 5
  exact ⟨_, _, rfl, mk_zeros w l n hl h, run_str (P := Try.prog) hrd 29 9 5 n n (by simp) Try.underlying29 Try.underlying5 Try.underlying9, Gr.alloc1 _ _, hrd, sz_alloc _ _⟩
theorem fit8 : commitM (V.new 10) [([97], [1]), ([98], [2]), ([111], [3])] = (V.new 10, 14) := by rfl
theorem may3 (m : Nat) : mayM [([97], [1]), (List.replicate (21 + m) 0, [2]), ([111], [3])] = 12 := by
  unfold mayM
  rw [if_neg (by simp)]
  unfold mayGo
  rw [if_neg (by decide), if_neg (by simp), if_neg (by simp)]
  unfold mayGo
  rw [if_pos]
  unfold nameBad
  exact decide_eq_true (.inr (.inl (by rw [List.length_replicate]; omega)))
theorem may7 (m : Nat) : mayM [([97], List.replicate (8001 + m) 0), ([98], [2]), ([111], [3])] = 5 := by
  unfold mayM
  rw [if_neg (by simp)]
  unfold mayGo
  rw [if_neg (by decide), if_neg (by simp), if_pos (by rw [List.length_replicate]; omega)]
theorem may0 : mayM [] = 1 := by decide
theorem may2 : mayM [([97], [1]), ([], [2]), ([111], [3])] = 12 := by decide
theorem may4 : mayM [([97], [1]), ([98], [2]), (jn, [3])] = 12 := by decide
theorem may5 : mayM [([97], [1]), ([98], [2]), (mk, [3])] = 12 := by decide
theorem may6 : mayM [([97], [1]), ([98], [2]), ([97], [3])] = 7 := by decide
set_option maxHeartbeats 4000000 in
theorem walk (W : World) (x0 : Int) (h0a : -9223372036854775808 ≤ x0) (h0b : x0 ≤ 9223372036854775807) (x1 : Int) (h1a : -9223372036854775808 ≤ x1) (h1b : x1 ≤ 9223372036854775807) :
    Calls Try.prog 6 #[.int .i64 x0, .int .i64 x1] W fun e W' => e = .returned (.bool true) ∧ Gr W W' := by
  have HK := Lib.hid (known_any W)
  obtain ⟨m, hm⟩ : ∃ m : Nat, x1 % 9 = m := ⟨(x1 % 9).toNat, by have := Int.emod_nonneg x1 (show (9 : Int) ≠ 0 by omega); omega⟩
  have hm9 : m < 9 := by have := Int.emod_lt_of_pos x1 (show (0 : Int) < 9 by omega); omega
  have HW1 := Lib.hid (fun W => within1_any x1 9 W h1a h1b (by omega) (by omega))
  rw [hm] at HW1
  have HW2 := Lib.hid (fun W => within1_any x0 9 W h0a h0b (by omega) (by omega))
  have hq0 : 0 ≤ x0 % 9 ∧ x0 % 9 < 9 := ⟨Int.emod_nonneg x0 (by omega), Int.emod_lt_of_pos x0 (by omega)⟩
  clear hm
  have HN := Lib.hid (sv_new 20000)
  have HN2 := Lib.hid (sv_new 10)
  obtain h | h | h | h | h | h | h | h | h : x0 % 9 = 0 ∨ x0 % 9 = 1 ∨ x0 % 9 = 2 ∨ x0 % 9 = 3 ∨ x0 % 9 = 4 ∨ x0 % 9 = 5 ∨ x0 % 9 = 6 ∨ x0 % 9 = 7 ∨ x0 % 9 = 8 := by omega
  · rw [h] at HW2
    clear h hq0
    go_enter Try.func6, Try.ntmps6
    go_wp2_with (first
      | (go_at_call 10; refine HK.out.mono ?_; rintro e w1 ⟨rfl, hg1⟩; replace hg1 := Lib.hid hg1)
      | (go_at_call 15; have hSS := hS4.out; refine (HW2.out _).mono ?_; rintro e w5 ⟨rfl, hw5⟩
         have hL := lit3 hw5
         clear hw5
         generalize hgg : w4.heap.size + 1 + 1 + 1 = g at *
         generalize w4.heap.size + 1 + 1 = b3 at *
         generalize w4.heap.size + 1 = b2 at *
         generalize hb1 : w4.heap.size = b1 at *
         clear hgg
         replace hL := Lib.hid hL)
      | (go_at_call 15; refine (HW1.out _).mono ?_; rintro e w2 ⟨rfl, hw2⟩; subst hw2; clear HW1)
      | (go_at_call 16; refine (HN.out _).mono ?_; rintro e w4 ⟨p, X4, rfl, hS4⟩; replace hS4 := Lib.hid hS4)
      | (go_at_call 19; refine (rf_commit (e0 := 1) (rs := []) hS4.out hL.out.gr ⟨Nat.zero_le _, Nat.zero_le _⟩ (FlS.nil _ _ _) 0 0 rfl (by omega) (by omega) (fun f hf => by cases hf) (may_commit may0 (by decide))).mono ?_
         rintro e w6 ⟨rfl, X6, hS6⟩
         replace hS6 := Lib.hid hS6)
      | (go_at_call 24; refine (new_ops _ hS6.out).mono ?_; rintro e w7 ⟨rfl, hw7⟩; replace hw7 := hw7.symm; subst hw7)
      | (go_at_call 23; refine (new_names _ hS6.out).mono ?_; rintro e w8 ⟨⟨A8, c8, rfl⟩, hS8⟩; replace hS8 := Lib.hid hS8))
    go_ret
    exact ⟨rfl, hg1.out.trans' hS8.out.gr⟩
  · rw [h] at HW2
    clear h hq0
    go_enter Try.func6, Try.ntmps6
    go_wp2_with (first
      | (go_at_call 10; refine HK.out.mono ?_; rintro e w1 ⟨rfl, hg1⟩; replace hg1 := Lib.hid hg1)
      | (go_at_call 15; have hSS := hS4.out; refine (HW2.out _).mono ?_; rintro e w5 ⟨rfl, hw5⟩
         have hL := lit3 hw5
         clear hw5
         generalize hgg : w4.heap.size + 1 + 1 + 1 = g at *
         generalize w4.heap.size + 1 + 1 = b3 at *
         generalize w4.heap.size + 1 = b2 at *
         generalize hb1 : w4.heap.size = b1 at *
         clear hgg
         replace hL := Lib.hid hL)
      | (go_at_call 15; refine (HW1.out _).mono ?_; rintro e w2 ⟨rfl, hw2⟩; subst hw2; clear HW1)
      | (go_at_call 16; refine (HN.out _).mono ?_; rintro e w4 ⟨p, X4, rfl, hS4⟩; replace hS4 := Lib.hid hS4))
    have hfo : FlO w5 (fun i => i = b1 ∨ i = b2 ∨ i = b3) w4.heap.size (some ⟨g, 0, none⟩) 3 3 [⟨[97], ⟨some ⟨b1, 0, none⟩, 1, 1, [1]⟩⟩, ⟨[98], ⟨some ⟨b2, 0, none⟩, 1, 1, [2]⟩⟩, ⟨[111], ⟨some ⟨b3, 0, none⟩, 1, 1, [3]⟩⟩] := by
      have hgl := hL.out.rf.lt
      have hl1 := hL.out.l1
      have hl2 := hL.out.l2
      have hl3 := hL.out.l3
      have hl4 := hL.out.l4
      refine ⟨Own.of_row hL.out.rf (by omega) rfl (by unfold maxLen; omega), fun f hf => ?_⟩
      simp only [List.mem_cons, List.not_mem_nil, or_false] at hf
      rcases hf with rfl | rfl | rfl
      · exact ⟨rw_one hL.out.r1, (by unfold maxLen; first | omega | decide | simp), fun _ ad e => by injection e with e; subst e; exact ⟨.inl rfl, fun e2 => by injection e2 with e2; simp only at e2; omega, by simp only; omega⟩⟩
      · exact ⟨rw_one hL.out.r2, (by unfold maxLen; first | omega | decide | simp), fun _ ad e => by injection e with e; subst e; exact ⟨.inr (.inl rfl), fun e2 => by injection e2 with e2; simp only at e2; omega, by simp only; omega⟩⟩
      · exact ⟨rw_one hL.out.r3, (by unfold maxLen; first | omega | decide | simp), fun _ ad e => by injection e with e; subst e; exact ⟨.inr (.inr rfl), fun e2 => by injection e2 with e2; simp only at e2; omega, by simp only; omega⟩⟩
    have hbs := Lib.hid (show ∀ i, (i = b1 ∨ i = b2 ∨ i = b3) → w4.heap.size ≤ i from fun i hi => by
      have hl1 := hL.out.l1
      have hl2 := hL.out.l2
      have hl3 := hL.out.l3
      omega)
    replace hfo := Lib.hid hfo
    obtain ⟨i0, hi, hz0, hz1, hz2⟩ := info_parts info_cfile
    go_loopw [6, 8] (fun t i wr => ∃ j : Nat, j ≤ 6 + m ∧ i = .int .i64 j ∧ ∃ A c rs, t = .slice A (3 + j) c ∧ Hid (FlO wr (fun i => i = b1 ∨ i = b2 ∨ i = b3) w4.heap.size A (3 + j) c rs) ∧ Hid (∀ f ∈ rs, f.q.n ≤ 1) ∧ Hid (Gr w4 wr)) (fun _ i _ => 6 + m - (intOf i).toNat)
    case atStart => exact ⟨0, by omega, rfl, _, 3, _, rfl, hfo, Lib.hid (fun f hf => by simp only [List.mem_cons, List.not_mem_nil, or_false] at hf; rcases hf with rfl | rfl | rfl <;> exact Nat.le_refl _), Lib.hid hL.out.gr⟩
    case round =>
      obtain ⟨j, hj, rfl, A, c, rs, rfl, hfl, hsm, hg⟩ := hrel
      by_cases hlt : j < 6 + m
      · have hlt2 : (j : Int) < 6 + m := by omega
        have hcc : ((97 : Int) + j) % 256 = 97 + j := by omega
        obtain ⟨cc, hc8⟩ : ∃ cc : UInt8, cc = UInt8.ofNat (97 + j) := ⟨_, rfl⟩
        have hrd : Rd (wr.alloc (.cells #[.int .u8 (97 + (j : Int))] 5)) (some ⟨wr.heap.size, 0, none⟩) ([cc].map bv) := by
          have e : [cc].map bv = [.int .u8 (97 + (j : Int))] := by
            have h2 : cc.toNat = 97 + j := by rw [hc8, UInt8.toNat_ofNat']; omega
            simp only [List.map_cons, List.map_nil, bv, h2]
            simp
          rw [e]
          exact Rd.one_new wr _ _
        have hcv := run_str (P := Try.prog) hrd 29 9 5 1 1 rfl Try.underlying29 Try.underlying5 Try.underlying9
        clear hrd hc8
        obtain ⟨sb, hsb⟩ : ∃ sb : ByteArray, sb = (⟨#[102]⟩ : ByteArray) ++ (⟨#[cc]⟩ : ByteArray) := ⟨_, rfl⟩
        have hsl : sb.data.toList.length ≤ maxLen := by rw [hsb]; unfold maxLen; simp
        have hse : encStr sb.data.toList = .string sb := by unfold encStr; simp
        have hse := Lib.hid hse
        have hsl := Lib.hid hsl
        have hg4 := Lib.hid (hg.out.trans' ((Gr.alloc1 wr (.cells #[.int .u8 (97 + (j : Int))] 5)).trans' (Gr.alloc1 _ (.cells #[.string sb, .slice none 0 0] 31))))
        have hf4 := Lib.hid (hfl.out.gr ((Gr.alloc1 wr (.cells #[.int .u8 (97 + (j : Int))] 5)).trans' (Gr.alloc1 _ (.cells #[.string sb, .slice none 0 0] 31))))
        have hszz := sz_alloc wr (.cells #[.int .u8 (97 + (j : Int))] 5)
        have hnw := Lib.hid (Rd.of_row' (row_new (wr.alloc (.cells #[.int .u8 (97 + (j : Int))] 5)) 31 [.string sb, .slice none 0 0] hszz))
        have hsz4 := Lib.hid hg4.out.size
        clear hszz
        rw [hsb] at hg4 hf4 hnw hsz4 hse hsl
        go_wp2_with (at_builtin; with_reducible refine wpList_append (o := ⟨some 42, _, _, _, _, _⟩) _ rfl _ _ 22 rfl w4.heap.size 31 i0 _ 2 40 Try.underlying22 hi hz0 hz1 hz2 rfl (by omega) A (3 + j) c _ rfl hf4.out.own _ 1 1 [.string ((⟨#[102]⟩ : ByteArray) ++ (⟨#[cc]⟩ : ByteArray)), .slice none 0 0] rfl rfl hnw.out (by simp [Value.oneCell']) (by omega) (by unfold maxLen; omega) hsz4.out ?_
                     intro A6 c6 w6 ho6 hk6
                     have hq6 := Lib.hid (And.intro ho6 hk6)
                     clear ho6 hk6)
        go_roundw
        case rel =>
          obtain ⟨q1, q2⟩ := hq6.out
          refine ⟨j + 1, by omega, by go_num, A6, c6, rs ++ [⟨sb.data.toList, ⟨none, 0, 0, []⟩⟩], rfl, Lib.hid ?_, Lib.hid ?_, Lib.hid ?_⟩
          · exact hf4.out.push (f := ⟨sb.data.toList, ⟨none, 0, 0, []⟩⟩) ⟨Lib.hid rfl, Rd.nil _ _, Nat.le_refl _, Nat.zero_le _⟩ (by rw [hsb]; exact hsl.out) (fun h0 => absurd h0 (by simp)) (by
              show Own w6 _ _ 2 A6 (3 + j + 1) c6 (_ ++ [encStr sb.data.toList, .slice none 0 0])
              rw [hsb, hse.out]
              exact q1) q2
          · intro f hf
            rcases List.mem_append.1 hf with hf | hf
            · exact hsm.out f hf
            · obtain rfl := List.mem_singleton.1 hf
              exact Nat.zero_le _
          · exact Gr.grownBk hg4.out q2.grown (fun g' e => (hf4.out.own.blk g' e).1)
        case measure => simp [intOf]; omega
      · obtain rfl : j = 6 + m := by omega
        have hlt2 : ¬ ((6 + (m : Int)) < 6 + m) := by omega
        have hln := Lib.hid hfl.out.len
        have hfz := Lib.hid hfl.out
        have hm1 := Lib.hid (show mayM (rs.map FlR.fl) = 1 from by unfold mayM; rw [if_pos (by rw [List.length_map]; have := hln.out; omega)])
        clear hfl
        go_wp2_with (first
          | (go_at_call 19; refine (rf_commit (e0 := 1) hS4.out hg.out ⟨Nat.zero_le _, Nat.zero_le _⟩ (hfz.out.fls.mono (fun i hi => ⟨?_, hi.2⟩)) _ c hln.out (by omega) hfz.out.own.le.1 (fun f hf => by have := hsm.out f hf; omega) (may_commit hm1.out (by decide))).mono ?_
             · rcases hi.1 with h1 | h1
               · exact hbs.out i h1
               · exact (hfz.out.own.blk i h1).1
             rintro e w6 ⟨rfl, X6, hS6⟩
             replace hS6 := Lib.hid hS6)
          | (go_at_call 24; refine (new_ops _ hS6.out).mono ?_; rintro e w7 ⟨rfl, hw7⟩; replace hw7 := hw7.symm; subst hw7)
          | (go_at_call 23; refine (new_names _ hS6.out).mono ?_; rintro e w8 ⟨⟨A8, c8, rfl⟩, hS8⟩; replace hS8 := Lib.hid hS8))
        go_ret
        exact ⟨rfl, hg1.out.trans' hS8.out.gr⟩
  · rw [h] at HW2
    clear h hq0
    go_enter Try.func6, Try.ntmps6
    go_wp2_with (first
      | (go_at_call 10; refine HK.out.mono ?_; rintro e w1 ⟨rfl, hg1⟩; replace hg1 := Lib.hid hg1)
      | (go_at_call 15; have hSS := hS4.out; refine (HW2.out _).mono ?_; rintro e w5 ⟨rfl, hw5⟩
         have hL := lit3 hw5
         clear hw5
         generalize hgg : w4.heap.size + 1 + 1 + 1 = g at *
         generalize w4.heap.size + 1 + 1 = b3 at *
         generalize w4.heap.size + 1 = b2 at *
         generalize hb1 : w4.heap.size = b1 at *
         clear hgg
         replace hL := Lib.hid hL
         have hc2 : w5.cell? ⟨g, 2, none⟩ = _ := hL.out.rf.cell 2
         have hz2 : w5.frozen? ⟨g, 2, none⟩ = false := hL.out.rf.frozen 2)
      | (go_at_call 15; refine (HW1.out _).mono ?_; rintro e w2 ⟨rfl, hw2⟩; subst hw2; clear HW1)
      | (go_at_call 16; refine (HN.out _).mono ?_; rintro e w4 ⟨p, X4, rfl, hS4⟩; replace hS4 := Lib.hid hS4)
      | (go_at_call 19; obtain ⟨t1, t2, t3⟩ := hL.out.rows (Gr.rfl' _) 2 (encStr [])
         have hrow := ((hL.out.rf.gr (Gr.rfl' _)).set 2 (encStr []))
         have hsz := set_size w5 ⟨g, 2, none⟩ (encStr [])
         have hgl := hL.out.rf.lt
         have hl1 := hL.out.l1
         have hl2 := hL.out.l2
         have hl3 := hL.out.l3
         have hl4 := hL.out.l4
         have hgz := (Gr.rfl' _ : Gr w5 w5).size
         refine (rf_commit (e0 := 12) (rs := [⟨[97], ⟨some ⟨b1, 0, none⟩, 1, 1, [1]⟩⟩, ⟨[], ⟨some ⟨b2, 0, none⟩, 1, 1, [2]⟩⟩, ⟨[111], ⟨some ⟨b3, 0, none⟩, 1, 1, [3]⟩⟩]) hS4.out (hL.out.gr_set (Gr.rfl' _) hgz 2 (encStr [])) ⟨Nat.zero_le _, Nat.zero_le _⟩ (fls3 hrow (rw_one t1) (rw_one t2) (rw_one t3) (by unfold maxLen; first | omega | decide | simp) (by unfold maxLen; first | omega | decide | simp) (by unfold maxLen; first | omega | decide | simp) ⟨by omega, by rw [hsz]; omega⟩ (fun ad e => by injection e with e; subst e; exact ⟨by simp only; omega, by rw [hsz]; simp only; omega⟩) (fun ad e => by injection e with e; subst e; exact ⟨by simp only; omega, by rw [hsz]; simp only; omega⟩) (fun ad e => by injection e with e; subst e; exact ⟨by simp only; omega, by rw [hsz]; simp only; omega⟩)) 3 3 rfl (by omega) (by omega) (fun f hf => by simp only [List.mem_cons, List.not_mem_nil, or_false] at hf; rcases hf with rfl | rfl | rfl <;> simp only <;> omega) (may_commit may2 (by decide))).mono ?_
         rintro e w6 ⟨rfl, X6, hS6⟩
         replace hS6 := Lib.hid hS6)
      | (go_at_call 24; refine (new_ops _ hS6.out).mono ?_; rintro e w7 ⟨rfl, hw7⟩; replace hw7 := hw7.symm; subst hw7)
      | (go_at_call 23; refine (new_names _ hS6.out).mono ?_; rintro e w8 ⟨⟨A8, c8, rfl⟩, hS8⟩; replace hS8 := Lib.hid hS8))
    go_ret
    exact ⟨rfl, hg1.out.trans' hS8.out.gr⟩
  · rw [h] at HW2
    clear h hq0
    go_enter Try.func6, Try.ntmps6
    go_wp2_with (first
      | (go_at_call 10; refine HK.out.mono ?_; rintro e w1 ⟨rfl, hg1⟩; replace hg1 := Lib.hid hg1)
      | (go_at_call 15; have hSS := hS4.out; refine (HW2.out _).mono ?_; rintro e w5 ⟨rfl, hw5⟩
         have hL := lit3 hw5
         clear hw5
         generalize hgg : w4.heap.size + 1 + 1 + 1 = g at *
         generalize w4.heap.size + 1 + 1 = b3 at *
         generalize w4.heap.size + 1 = b2 at *
         generalize hb1 : w4.heap.size = b1 at *
         clear hgg
         replace hL := Lib.hid hL
         obtain ⟨zs, Wm, hzs, hmk, hcv, hgm, hrm, hzm⟩ := mk_str w5 (21 + (m : Int)) (21 + m) (by omega) (by omega)
         have hc2 : Wm.cell? ⟨g, 2, none⟩ = _ := (hL.out.rf.gr hgm).cell 2
         have hz2 : Wm.frozen? ⟨g, 2, none⟩ = false := (hL.out.rf.gr hgm).frozen 2
         have hzl : zs.length ≤ 1000 := by rw [hzs, List.length_replicate]; omega
         have hmay := Lib.hid (hzs ▸ may3 m)
         clear hzs)
      | (go_at_call 15; refine (HW1.out _).mono ?_; rintro e w2 ⟨rfl, hw2⟩; subst hw2; clear HW1)
      | (go_at_call 16; refine (HN.out _).mono ?_; rintro e w4 ⟨p, X4, rfl, hS4⟩; replace hS4 := Lib.hid hS4)
      | (go_at_call 19; obtain ⟨t1, t2, t3⟩ := hL.out.rows (hgm) 2 (encStr zs)
         have hrow := ((hL.out.rf.gr (hgm)).set 2 (encStr zs))
         have hsz := set_size Wm ⟨g, 2, none⟩ (encStr zs)
         have hgl := hL.out.rf.lt
         have hl1 := hL.out.l1
         have hl2 := hL.out.l2
         have hl3 := hL.out.l3
         have hl4 := hL.out.l4
         have hgz := (hgm : Gr w5 Wm).size
         refine (rf_commit (e0 := 12) (rs := [⟨[97], ⟨some ⟨b1, 0, none⟩, 1, 1, [1]⟩⟩, ⟨zs, ⟨some ⟨b2, 0, none⟩, 1, 1, [2]⟩⟩, ⟨[111], ⟨some ⟨b3, 0, none⟩, 1, 1, [3]⟩⟩]) hS4.out (hL.out.gr_set (hgm) hgz 2 (encStr zs)) ⟨Nat.zero_le _, Nat.zero_le _⟩ (fls3 hrow (rw_one t1) (rw_one t2) (rw_one t3) (by unfold maxLen; first | omega | decide | simp) (by unfold maxLen; first | omega | decide | simp) (by unfold maxLen; first | omega | decide | simp) ⟨by omega, by rw [hsz]; omega⟩ (fun ad e => by injection e with e; subst e; exact ⟨by simp only; omega, by rw [hsz]; simp only; omega⟩) (fun ad e => by injection e with e; subst e; exact ⟨by simp only; omega, by rw [hsz]; simp only; omega⟩) (fun ad e => by injection e with e; subst e; exact ⟨by simp only; omega, by rw [hsz]; simp only; omega⟩)) 3 3 rfl (by omega) (by omega) (fun f hf => by simp only [List.mem_cons, List.not_mem_nil, or_false] at hf; rcases hf with rfl | rfl | rfl <;> simp only <;> omega) (may_commit hmay.out (by decide))).mono ?_
         rintro e w6 ⟨rfl, X6, hS6⟩
         replace hS6 := Lib.hid hS6)
      | (go_at_call 24; refine (new_ops _ hS6.out).mono ?_; rintro e w7 ⟨rfl, hw7⟩; replace hw7 := hw7.symm; subst hw7)
      | (go_at_call 23; refine (new_names _ hS6.out).mono ?_; rintro e w8 ⟨⟨A8, c8, rfl⟩, hS8⟩; replace hS8 := Lib.hid hS8))
    go_ret
    exact ⟨rfl, hg1.out.trans' hS8.out.gr⟩
  · rw [h] at HW2
    clear h hq0
    go_enter Try.func6, Try.ntmps6
    go_wp2_with (first
      | (go_at_call 10; refine HK.out.mono ?_; rintro e w1 ⟨rfl, hg1⟩; replace hg1 := Lib.hid hg1)
      | (go_at_call 15; have hSS := hS4.out; refine (HW2.out _).mono ?_; rintro e w5 ⟨rfl, hw5⟩
         have hL := lit3 hw5
         clear hw5
         generalize hgg : w4.heap.size + 1 + 1 + 1 = g at *
         generalize w4.heap.size + 1 + 1 = b3 at *
         generalize w4.heap.size + 1 = b2 at *
         generalize hb1 : w4.heap.size = b1 at *
         clear hgg
         replace hL := Lib.hid hL
         have hc4 : w5.cell? ⟨g, 4, none⟩ = _ := hL.out.rf.cell 4
         have hz4 : w5.frozen? ⟨g, 4, none⟩ = false := hL.out.rf.frozen 4)
      | (go_at_call 15; refine (HW1.out _).mono ?_; rintro e w2 ⟨rfl, hw2⟩; subst hw2; clear HW1)
      | (go_at_call 16; refine (HN.out _).mono ?_; rintro e w4 ⟨p, X4, rfl, hS4⟩; replace hS4 := Lib.hid hS4)
      | (go_at_call 19; obtain ⟨t1, t2, t3⟩ := hL.out.rows (Gr.rfl' _) 4 (encStr jn)
         have hrow := ((hL.out.rf.gr (Gr.rfl' _)).set 4 (encStr jn))
         have hsz := set_size w5 ⟨g, 4, none⟩ (encStr jn)
         have hgl := hL.out.rf.lt
         have hl1 := hL.out.l1
         have hl2 := hL.out.l2
         have hl3 := hL.out.l3
         have hl4 := hL.out.l4
         have hgz := (Gr.rfl' _ : Gr w5 w5).size
         refine (rf_commit (e0 := 12) (rs := [⟨[97], ⟨some ⟨b1, 0, none⟩, 1, 1, [1]⟩⟩, ⟨[98], ⟨some ⟨b2, 0, none⟩, 1, 1, [2]⟩⟩, ⟨jn, ⟨some ⟨b3, 0, none⟩, 1, 1, [3]⟩⟩]) hS4.out (hL.out.gr_set (Gr.rfl' _) hgz 4 (encStr jn)) ⟨Nat.zero_le _, Nat.zero_le _⟩ (fls3 hrow (rw_one t1) (rw_one t2) (rw_one t3) (by unfold maxLen; first | omega | decide | simp) (by unfold maxLen; first | omega | decide | simp) (by unfold maxLen; first | omega | decide | simp) ⟨by omega, by rw [hsz]; omega⟩ (fun ad e => by injection e with e; subst e; exact ⟨by simp only; omega, by rw [hsz]; simp only; omega⟩) (fun ad e => by injection e with e; subst e; exact ⟨by simp only; omega, by rw [hsz]; simp only; omega⟩) (fun ad e => by injection e with e; subst e; exact ⟨by simp only; omega, by rw [hsz]; simp only; omega⟩)) 3 3 rfl (by omega) (by omega) (fun f hf => by simp only [List.mem_cons, List.not_mem_nil, or_false] at hf; rcases hf with rfl | rfl | rfl <;> simp only <;> omega) (may_commit may4 (by decide))).mono ?_
         rintro e w6 ⟨rfl, X6, hS6⟩
         replace hS6 := Lib.hid hS6)
      | (go_at_call 24; refine (new_ops _ hS6.out).mono ?_; rintro e w7 ⟨rfl, hw7⟩; replace hw7 := hw7.symm; subst hw7)
      | (go_at_call 23; refine (new_names _ hS6.out).mono ?_; rintro e w8 ⟨⟨A8, c8, rfl⟩, hS8⟩; replace hS8 := Lib.hid hS8))
    go_ret
    exact ⟨rfl, hg1.out.trans' hS8.out.gr⟩
  · rw [h] at HW2
    clear h hq0
    go_enter Try.func6, Try.ntmps6
    go_wp2_with (first
      | (go_at_call 10; refine HK.out.mono ?_; rintro e w1 ⟨rfl, hg1⟩; replace hg1 := Lib.hid hg1)
      | (go_at_call 15; have hSS := hS4.out; refine (HW2.out _).mono ?_; rintro e w5 ⟨rfl, hw5⟩
         have hL := lit3 hw5
         clear hw5
         generalize hgg : w4.heap.size + 1 + 1 + 1 = g at *
         generalize w4.heap.size + 1 + 1 = b3 at *
         generalize w4.heap.size + 1 = b2 at *
         generalize hb1 : w4.heap.size = b1 at *
         clear hgg
         replace hL := Lib.hid hL
         have hc4 : w5.cell? ⟨g, 4, none⟩ = _ := hL.out.rf.cell 4
         have hz4 : w5.frozen? ⟨g, 4, none⟩ = false := hL.out.rf.frozen 4)
      | (go_at_call 15; refine (HW1.out _).mono ?_; rintro e w2 ⟨rfl, hw2⟩; subst hw2; clear HW1)
      | (go_at_call 16; refine (HN.out _).mono ?_; rintro e w4 ⟨p, X4, rfl, hS4⟩; replace hS4 := Lib.hid hS4)
      | (go_at_call 19; obtain ⟨t1, t2, t3⟩ := hL.out.rows (Gr.rfl' _) 4 (encStr mk)
         have hrow := ((hL.out.rf.gr (Gr.rfl' _)).set 4 (encStr mk))
         have hsz := set_size w5 ⟨g, 4, none⟩ (encStr mk)
         have hgl := hL.out.rf.lt
         have hl1 := hL.out.l1
         have hl2 := hL.out.l2
         have hl3 := hL.out.l3
         have hl4 := hL.out.l4
         have hgz := (Gr.rfl' _ : Gr w5 w5).size
         refine (rf_commit (e0 := 12) (rs := [⟨[97], ⟨some ⟨b1, 0, none⟩, 1, 1, [1]⟩⟩, ⟨[98], ⟨some ⟨b2, 0, none⟩, 1, 1, [2]⟩⟩, ⟨mk, ⟨some ⟨b3, 0, none⟩, 1, 1, [3]⟩⟩]) hS4.out (hL.out.gr_set (Gr.rfl' _) hgz 4 (encStr mk)) ⟨Nat.zero_le _, Nat.zero_le _⟩ (fls3 hrow (rw_one t1) (rw_one t2) (rw_one t3) (by unfold maxLen; first | omega | decide | simp) (by unfold maxLen; first | omega | decide | simp) (by unfold maxLen; first | omega | decide | simp) ⟨by omega, by rw [hsz]; omega⟩ (fun ad e => by injection e with e; subst e; exact ⟨by simp only; omega, by rw [hsz]; simp only; omega⟩) (fun ad e => by injection e with e; subst e; exact ⟨by simp only; omega, by rw [hsz]; simp only; omega⟩) (fun ad e => by injection e with e; subst e; exact ⟨by simp only; omega, by rw [hsz]; simp only; omega⟩)) 3 3 rfl (by omega) (by omega) (fun f hf => by simp only [List.mem_cons, List.not_mem_nil, or_false] at hf; rcases hf with rfl | rfl | rfl <;> simp only <;> omega) (may_commit may5 (by decide))).mono ?_
         rintro e w6 ⟨rfl, X6, hS6⟩
         replace hS6 := Lib.hid hS6)
      | (go_at_call 24; refine (new_ops _ hS6.out).mono ?_; rintro e w7 ⟨rfl, hw7⟩; replace hw7 := hw7.symm; subst hw7)
      | (go_at_call 23; refine (new_names _ hS6.out).mono ?_; rintro e w8 ⟨⟨A8, c8, rfl⟩, hS8⟩; replace hS8 := Lib.hid hS8))
    go_ret
    exact ⟨rfl, hg1.out.trans' hS8.out.gr⟩
  · rw [h] at HW2
    clear h hq0
    go_enter Try.func6, Try.ntmps6
    go_wp2_with (first
      | (go_at_call 10; refine HK.out.mono ?_; rintro e w1 ⟨rfl, hg1⟩; replace hg1 := Lib.hid hg1)
      | (go_at_call 15; have hSS := hS4.out; refine (HW2.out _).mono ?_; rintro e w5 ⟨rfl, hw5⟩
         have hL := lit3 hw5
         clear hw5
         generalize hgg : w4.heap.size + 1 + 1 + 1 = g at *
         generalize w4.heap.size + 1 + 1 = b3 at *
         generalize w4.heap.size + 1 = b2 at *
         generalize hb1 : w4.heap.size = b1 at *
         clear hgg
         replace hL := Lib.hid hL
         have hc4 : w5.cell? ⟨g, 4, none⟩ = _ := hL.out.rf.cell 4
         have hz4 : w5.frozen? ⟨g, 4, none⟩ = false := hL.out.rf.frozen 4)
      | (go_at_call 15; refine (HW1.out _).mono ?_; rintro e w2 ⟨rfl, hw2⟩; subst hw2; clear HW1)
      | (go_at_call 16; refine (HN.out _).mono ?_; rintro e w4 ⟨p, X4, rfl, hS4⟩; replace hS4 := Lib.hid hS4)
      | (go_at_call 19; obtain ⟨t1, t2, t3⟩ := hL.out.rows (Gr.rfl' _) 4 (encStr [97])
         have hrow := ((hL.out.rf.gr (Gr.rfl' _)).set 4 (encStr [97]))
         have hsz := set_size w5 ⟨g, 4, none⟩ (encStr [97])
         have hgl := hL.out.rf.lt
         have hl1 := hL.out.l1
         have hl2 := hL.out.l2
         have hl3 := hL.out.l3
         have hl4 := hL.out.l4
         have hgz := (Gr.rfl' _ : Gr w5 w5).size
         refine (rf_commit (e0 := 7) (rs := [⟨[97], ⟨some ⟨b1, 0, none⟩, 1, 1, [1]⟩⟩, ⟨[98], ⟨some ⟨b2, 0, none⟩, 1, 1, [2]⟩⟩, ⟨[97], ⟨some ⟨b3, 0, none⟩, 1, 1, [3]⟩⟩]) hS4.out (hL.out.gr_set (Gr.rfl' _) hgz 4 (encStr [97])) ⟨Nat.zero_le _, Nat.zero_le _⟩ (fls3 hrow (rw_one t1) (rw_one t2) (rw_one t3) (by unfold maxLen; first | omega | decide | simp) (by unfold maxLen; first | omega | decide | simp) (by unfold maxLen; first | omega | decide | simp) ⟨by omega, by rw [hsz]; omega⟩ (fun ad e => by injection e with e; subst e; exact ⟨by simp only; omega, by rw [hsz]; simp only; omega⟩) (fun ad e => by injection e with e; subst e; exact ⟨by simp only; omega, by rw [hsz]; simp only; omega⟩) (fun ad e => by injection e with e; subst e; exact ⟨by simp only; omega, by rw [hsz]; simp only; omega⟩)) 3 3 rfl (by omega) (by omega) (fun f hf => by simp only [List.mem_cons, List.not_mem_nil, or_false] at hf; rcases hf with rfl | rfl | rfl <;> simp only <;> omega) (may_commit may6 (by decide))).mono ?_
         rintro e w6 ⟨rfl, X6, hS6⟩
         replace hS6 := Lib.hid hS6)
      | (go_at_call 24; refine (new_ops _ hS6.out).mono ?_; rintro e w7 ⟨rfl, hw7⟩; replace hw7 := hw7.symm; subst hw7)
      | (go_at_call 23; refine (new_names _ hS6.out).mono ?_; rintro e w8 ⟨⟨A8, c8, rfl⟩, hS8⟩; replace hS8 := Lib.hid hS8))
    go_ret
    exact ⟨rfl, hg1.out.trans' hS8.out.gr⟩
  · rw [h] at HW2
    clear h hq0
    go_enter Try.func6, Try.ntmps6
    go_wp2_with (first
      | (go_at_call 10; refine HK.out.mono ?_; rintro e w1 ⟨rfl, hg1⟩; replace hg1 := Lib.hid hg1)
      | (go_at_call 15; have hSS := hS4.out; refine (HW2.out _).mono ?_; rintro e w5 ⟨rfl, hw5⟩
         have hL := lit3 hw5
         clear hw5
         generalize hgg : w4.heap.size + 1 + 1 + 1 = g at *
         generalize w4.heap.size + 1 + 1 = b3 at *
         generalize w4.heap.size + 1 = b2 at *
         generalize hb1 : w4.heap.size = b1 at *
         clear hgg
         replace hL := Lib.hid hL
         obtain ⟨zs, Wm, hzs, hmk, hcv, hgm, hrm, hzm⟩ := mk_str w5 (8001 + (m : Int)) (8001 + m) (by omega) (by omega)
         have hc1 : Wm.cell? ⟨g, 1, none⟩ = _ := (hL.out.rf.gr hgm).cell 1
         have hz1 : Wm.frozen? ⟨g, 1, none⟩ = false := (hL.out.rf.gr hgm).frozen 1
         have hmay := Lib.hid (hzs ▸ may7 m)
         replace hzs := Lib.hid hzs)
      | (go_at_call 15; refine (HW1.out _).mono ?_; rintro e w2 ⟨rfl, hw2⟩; subst hw2; clear HW1)
      | (go_at_call 16; refine (HN.out _).mono ?_; rintro e w4 ⟨p, X4, rfl, hS4⟩; replace hS4 := Lib.hid hS4)
      | (go_at_call 19; obtain ⟨t1, t2, t3⟩ := hL.out.rows (hgm) 1 (.slice (some ⟨w5.heap.size, 0, none⟩) (8001 + m) (8001 + m))
         have hrow := ((hL.out.rf.gr (hgm)).set 1 (.slice (some ⟨w5.heap.size, 0, none⟩) (8001 + m) (8001 + m)))
         have hsz := set_size Wm ⟨g, 1, none⟩ (.slice (some ⟨w5.heap.size, 0, none⟩) (8001 + m) (8001 + m))
         have hgl := hL.out.rf.lt
         have hl1 := hL.out.l1
         have hl2 := hL.out.l2
         have hl3 := hL.out.l3
         have hl4 := hL.out.l4
         have hgz := (hgm : Gr w5 Wm).size
         have hq1 : Rw.Ok (Wm.setCell ⟨g, 1, none⟩ (.slice (some ⟨w5.heap.size, 0, none⟩) (8001 + m) (8001 + m))) ⟨some ⟨w5.heap.size, 0, none⟩, 8001 + m, 8001 + m, zs⟩ := ⟨Lib.hid (by rw [hzs.out, List.length_replicate]), hrm.grown (only_set Wm g 1 _) (fun _ ad e e2 => by injection e with e; subst e; injection e2 with e2; simp only at e2; omega), Nat.le_refl _, show 8001 + m ≤ maxLen from by unfold maxLen; omega⟩
         refine (rf_commit (e0 := 5) (rs := [⟨[97], ⟨some ⟨w5.heap.size, 0, none⟩, 8001 + m, 8001 + m, zs⟩⟩, ⟨[98], ⟨some ⟨b2, 0, none⟩, 1, 1, [2]⟩⟩, ⟨[111], ⟨some ⟨b3, 0, none⟩, 1, 1, [3]⟩⟩]) hS4.out (hL.out.gr_set (hgm) hgz 1 (.slice (some ⟨w5.heap.size, 0, none⟩) (8001 + m) (8001 + m))) ⟨Nat.zero_le _, Nat.zero_le _⟩ (fls3 hrow (hq1) (rw_one t2) (rw_one t3) (by unfold maxLen; first | omega | decide | simp) (by unfold maxLen; first | omega | decide | simp) (by unfold maxLen; first | omega | decide | simp) ⟨by omega, by rw [hsz]; omega⟩ (fun ad e => by injection e with e; subst e; exact ⟨by simp only; omega, by rw [hsz]; simp only; omega⟩) (fun ad e => by injection e with e; subst e; exact ⟨by simp only; omega, by rw [hsz]; simp only; omega⟩) (fun ad e => by injection e with e; subst e; exact ⟨by simp only; omega, by rw [hsz]; simp only; omega⟩)) 3 3 rfl (by omega) (by omega) (fun f hf => by simp only [List.mem_cons, List.not_mem_nil, or_false] at hf; rcases hf with rfl | rfl | rfl <;> simp only <;> omega) (may_commit hmay.out (by decide))).mono ?_
         rintro e w6 ⟨rfl, X6, hS6⟩
         replace hS6 := Lib.hid hS6)
      | (go_at_call 24; refine (new_ops _ hS6.out).mono ?_; rintro e w7 ⟨rfl, hw7⟩; replace hw7 := hw7.symm; subst hw7)
      | (go_at_call 23; refine (new_names _ hS6.out).mono ?_; rintro e w8 ⟨⟨A8, c8, rfl⟩, hS8⟩; replace hS8 := Lib.hid hS8))
    go_ret
    exact ⟨rfl, hg1.out.trans' hS8.out.gr⟩
  · rw [h] at HW2
    clear h hq0
    go_enter Try.func6, Try.ntmps6
    go_wp2_with (first
      | (go_at_call 10; refine HK.out.mono ?_; rintro e w1 ⟨rfl, hg1⟩; replace hg1 := Lib.hid hg1)
      | (go_at_call 15; have hSS := hS4.out; refine (HW2.out _).mono ?_; rintro e w5 ⟨rfl, hw5⟩
         have hL := lit3 hw5
         clear hw5
         generalize hgg : w4.heap.size + 1 + 1 + 1 = g at *
         generalize w4.heap.size + 1 + 1 = b3 at *
         generalize w4.heap.size + 1 = b2 at *
         generalize hb1 : w4.heap.size = b1 at *
         clear hgg
         replace hL := Lib.hid hL)
      | (go_at_call 15; refine (HW1.out _).mono ?_; rintro e w2 ⟨rfl, hw2⟩; subst hw2; clear HW1)
      | (go_at_call 16; have hLL := hL.out; refine (HN2.out _).mono ?_; rintro e w6 ⟨p6, X6, rfl, hS9⟩; replace hS9 := Lib.hid hS9)
      | (go_at_call 16; refine (HN.out _).mono ?_; rintro e w4 ⟨p, X4, rfl, hS4⟩; replace hS4 := Lib.hid hS4)
      | (go_at_call 19; have t1 := hL.out.r1
         have t2 := hL.out.r2
         have t3 := hL.out.r3
         have hgl := hL.out.rf.lt
         have hl2 := hL.out.l2
         have hl3 := hL.out.l3
         have hl4 := hL.out.l4
         refine (sv_commit (e0 := 14) (v' := V.new 10) (rs := [⟨[97], ⟨some ⟨b1, 0, none⟩, 1, 1, [1]⟩⟩, ⟨[98], ⟨some ⟨b2, 0, none⟩, 1, 1, [2]⟩⟩, ⟨[111], ⟨some ⟨b3, 0, none⟩, 1, 1, [3]⟩⟩]) hS9.out ⟨Nat.zero_le _, Nat.zero_le _⟩ (fls3 hL.out.rf (rw_one t1) (rw_one t2) (rw_one t3) (by unfold maxLen; first | omega | decide | simp) (by unfold maxLen; first | omega | decide | simp) (by unfold maxLen; first | omega | decide | simp) hgl (fun ad e => by injection e with e; subst e; simp only; omega) (fun ad e => by injection e with e; subst e; simp only; omega) (fun ad e => by injection e with e; subst e; simp only; omega)) 3 3 rfl (by omega) (by omega) (fun f hf => by simp only [List.mem_cons, List.not_mem_nil, or_false] at hf; rcases hf with rfl | rfl | rfl <;> simp only <;> omega) fit8).mono ?_
         rintro e w7 ⟨rfl, X7, hS6⟩
         replace hS6 := Lib.hid hS6)
      | (go_at_call 24; refine (new_ops _ hS6.out).mono ?_; rintro e w7 ⟨rfl, hw7⟩; replace hw7 := hw7.symm; subst hw7)
      | (go_at_call 23; refine (new_names _ hS6.out).mono ?_; rintro e w8 ⟨⟨A8, c8, rfl⟩, hS8⟩; replace hS8 := Lib.hid hS8))
    go_ret
    exact ⟨rfl, (hg1.out.trans' (hS4.out.gr.trans' hL.out.gr)).trans' hS8.out.gr⟩
end Go.Proofs.Ytcfbkhgdlgnmgaa.commitRefuses
set_option linter.unusedVariables false
set_option linter.unusedSimpArgs false
namespace Go.Proofs.Ytcfbkhgdlgnmgaa.commitRefuses
open Go.ChangeShapes Go.WideShapes Go.ChangeAt Go.RowKit
open Go.ChangeMaps (open_string shut_string)
theorem own : ownKnob Try.prog.godebug = none := by kernel_rfl
theorem laidOut : laidOutB Try.prog = true := by kernel_rfl
set_option maxRecDepth 100000 in
theorem lifted (os : Os) (started : os.Started) (H : Type) (enc : TypeId × Value → H) :
    ReturnsInHanded {} Try.checked os 6 .any (Rows.commitRefusesSpec.pre6 enc Try.prog Try.f6 Rows.commitRefusesRow.domain false) (Rows.commitRefusesSpec.post enc Try.prog Try.f6 false true false false) := by
  refine returnsInHanded_of_change (C := Try.checked) own started (by kernel_rfl) Try.func6
    (ChangeSpec.witness6 (enc := enc) (C := Try.checked) false ⟨#[], #[.int .i64 0, .int .i64 0], []⟩ 8 (by kernel_rfl) (by kernel_rfl) (by kernel_rfl) (by kernel_rfl)) ?_
  intro W base args ds gs before hval0 hW hcnd _
  have hval : ∀ (j : Nat) t v, Try.f6.params[j]? = some t → args[j]? = some v → Value.okWide Try.prog W .any base t v := hval0
  have hW' := hW
  obtain ⟨p, q, hA0, hV, rfl, hfz, hnd⟩ := hW
  have hA : DataW.TrodAll enc Try.prog W 0 (fun _ => true) true Try.f6.params.toList args.toList ds p := hA0
  rw [Try.params6] at hA hval
  obtain ⟨v0, vs0, d0, ds0, p0, q0, hargs, rfl, rfl, h0, r0⟩ := trodAll_cons hA
  obtain ⟨v1, vs1, d1, ds1, p1, q1, rfl, rfl, rfl, h1, r1⟩ := trodAll_cons r0
  obtain ⟨rfl, rfl, rfl⟩ := trodAll_nil r1
  obtain rfl : args = #[v0, v1] := by cases args; simp_all
  obtain ⟨rfl, rfl⟩ := trodVars_none hV
  have lt0 : ∀ x ∈ p0, x.block < W.heap.size := by obtain ⟨m, hm⟩ := h0; exact DataW.trod_lt m _ _ _ hm
  have k0 := h0
  have lt1 : ∀ x ∈ p1, x.block < W.heap.size := by obtain ⟨m, hm⟩ := h1; exact DataW.trod_lt m _ _ _ hm
  have k1 := h1
  obtain ⟨x0, rfl, _, _, w0⟩ := open_int Try.underlying3 (hval 0 3 v0 rfl rfl) h0
  obtain ⟨x1, rfl, _, _, w1⟩ := open_int Try.underlying3 (hval 1 3 v1 rfl rfl) h1
  clear hA0 hval0
  refine (walk W x0 (int_bounds w0).1 (int_bounds w0).2 x1 (int_bounds w1).1 (int_bounds w1).2).mono fun e W' ⟨he, bel⟩ => ?_
  subst he
  exact ⟨_, rfl, _, _, _, [], _, [], hW', trodAll_mk1 (shut_bool Try.underlying4 _), (trodAll_cons_mk (Below.trod laidOut (by kernel_rfl) (of_decide_eq_true (by kernel_rfl)) k0 bel lt0) (trodAll_cons_mk (Below.trod laidOut (by kernel_rfl) (of_decide_eq_true (by kernel_rfl)) k1 bel lt1) trodAll_mk0)), rfl, bel.frame _, fun h => by cases h⟩
theorem over : Rows.commitRefusesRow.holds Try.pinned (OpenSpec.ofChange Rows.commitRefusesSpec) :=
  OpenClaim.holds_of_wide 6 Try.f6 rfl rfl rfl rfl rfl rfl rfl ⟨rfl, rfl, rfl, rfl, rfl⟩ rfl rfl rfl rfl rfl (by kernel_rfl) Try.func6 (by kernel_rfl)
    (of_decide_eq_true (by kernel_rfl)) (by unfold Func.isWrapper; first | (rw [if_pos (by decide +kernel)]; kernel_rfl) | (rw [if_neg (by decide +kernel)]; exact ⟨rfl, rfl⟩))
    (fun os started H enc _ => lifted os started H enc)
theorem proved : Rows.CommitRefusesSaid := over
#print axioms proved
end Go.Proofs.Ytcfbkhgdlgnmgaa.commitRefuses
