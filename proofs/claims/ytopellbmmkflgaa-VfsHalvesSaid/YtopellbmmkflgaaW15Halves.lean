/- VfsHalves: the walk. -/
import Derived.Test.YtopellbmmkflgaaVfK
set_option linter.unusedVariables false
set_option linter.unusedSimpArgs false
namespace Go.Proofs.Ytopellbmmkflgaa
open Go.RowKit Go.Maps Go.Sort
attribute [local go_sem] Vc.known_tmp Vc.known_const Vc.known_func Vc.known_global Vc.lk Vc.okUpon Vc.Fact.holds
def h1 (a : Str) : V := ⟨[([97], a)], [], [⟨[97], a, false⟩], 1000, 0, 1, false⟩
def h2 (a : Str) : V := ⟨[([97], a)], [([97], a)], [], 1000, 0, 2, false⟩
def h3 (a b : Str) : V := ⟨[([97], b)], [([97], a)], [⟨[97], b, false⟩], 1000, 0, 3, false⟩
def h4 (a b : Str) : V := ⟨[], [([97], a)], [⟨[97], b, false⟩, ⟨[97], [], true⟩], 1000, 0, 4, false⟩
def h5 (a b : Str) : V := ⟨[([97], b)], [([97], a)], [⟨[97], b, false⟩, ⟨[97], [], true⟩, ⟨[97], b, false⟩], 1000, 0, 5, false⟩
theorem write_fit {s : V} {x b : Str} (h0 : s.dead = false) (h1 : x ≠ []) (h2 : x.length ≤ 20) (h3 : ¬ s.room < s.now.used - ((s.now.get x).getD []).length + b.length) : s.write x b = (s.done ⟨x, b, false⟩, deadNo (s.done ⟨x, b, false⟩).dead) := by
  unfold V.write
  rw [if_neg (by rw [h0]; simp), if_neg (fun h => h.elim h1 (fun h => by omega)), if_neg h3]
theorem h1_eq (a : Str) (h : a.length ≤ 100) : (V.new 1000).write [97] a = (h1 a, 0) := by
  rw [write_fit rfl (by simp) (by decide) (show ¬ 1000 < 0 - 0 + a.length by omega)]
  rfl
theorem h2_eq (a : Str) : (h1 a).flush = (h2 a, 0) := rfl
theorem h3_eq (a b : Str) (h : b.length ≤ 100) : (h2 a).write [97] b = (h3 a b, 0) := by
  rw [write_fit rfl (by simp) (by decide) (show ¬ 1000 < (a.length + 0) - a.length + b.length by omega)]
  rfl
theorem h4_eq (a b : Str) : (h3 a b).remove [97] = (h4 a b, 0) := rfl
theorem h5_eq (a b : Str) (h : b.length ≤ 100) : (h4 a b).write [97] b = (h5 a b, 0) := by
  rw [write_fit rfl (by simp) (by decide) (show ¬ 1000 < 0 - 0 + b.length by omega)]
  rfl
theorem sm_h1 (a : Str) : Sm (h1 a) := ⟨by show (1 : Nat) ≤ 1000000; decide, by show (0 : Nat) ≤ 1000000; decide⟩
theorem sm_h2 (a : Str) : Sm (h2 a) := ⟨by show (2 : Nat) ≤ 1000000; decide, by show (0 : Nat) ≤ 1000000; decide⟩
theorem sm_h3 (a b : Str) : Sm (h3 a b) := ⟨by show (3 : Nat) ≤ 1000000; decide, by show (0 : Nat) ≤ 1000000; decide⟩
theorem sm_h4 (a b : Str) : Sm (h4 a b) := ⟨by show (4 : Nat) ≤ 1000000; decide, by show (0 : Nat) ≤ 1000000; decide⟩
theorem sm_h5 (a b : Str) : Sm (h5 a b) := ⟨by show (5 : Nat) ≤ 1000000; decide, by show (0 : Nat) ≤ 1000000; decide⟩
theorem tdiv4 {r : Int} (h0 : -9223372036854775808 ≤ r) (h1 : r ≤ 9223372036854775807) : -9223372036854775808 ≤ r.tdiv 4 ∧ r.tdiv 4 ≤ 9223372036854775807 := by
  rcases Int.le_total 0 r with h | h
  · rw [Int.tdiv_eq_ediv_of_nonneg h]
    omega
  · have e : r.tdiv 4 = -((-r).tdiv 4) := by rw [Int.neg_tdiv, Int.neg_neg]
    rw [e, Int.tdiv_eq_ediv_of_nonneg (by omega)]
    omega
theorem half_bounds (n c : Nat) (h : n ≤ c) : (0 : Int) ≤ (n : Int) / 2 ∧ (n : Int) / 2 ≤ (c : Int) ∧ ((n : Int) / 2).toNat = n / 2 := ⟨by omega, by omega, by omega⟩
theorem half_wraps (n : Nat) (h : ¬ 100 < n) : IntKind.i64.wrap ((n : Int).tdiv 2) = (n : Int) / 2 ∧ IntKind.i64.wrap ((n : Int) / 2) = (n : Int) / 2 ∧ wrap64 ((n : Int) / 2) = (n : Int) / 2 := by
  refine ⟨?_, ?_, ?_⟩
  · rw [Int.tdiv_eq_ediv_of_nonneg (by omega), IntKind.wrap_i64]
    omega
  · rw [IntKind.wrap_i64]
    omega
  · unfold wrap64
    omega
theorem str_at {W : World} {A : Option Addr} {b : Str} {n : Nat} (c : Nat) (hn : b.length = n) (h : Rd W A (b.map bv)) : (convert 31 9 (.slice A n c)).run Try.prog W = .ok (encStr b) W :=
  run_str h _ _ _ n c hn.symm Try.underlying31 Try.underlying5 Try.underlying9
/-- The two rows that the law lays: what may stay, and what does. -/
theorem keeps (W : World) (q k : Int) : let V := (W.alloc (.cells #[.int .i64 0, .int .i64 1, .int .i64 2, .int .i64 5] 3)).alloc (.cells #[.int .i64 0, .int .i64 q, .int .i64 k] 3)
    Row V W.heap.size 3 [.int .i64 0, .int .i64 1, .int .i64 2, .int .i64 5] ∧ Rd V (some ⟨W.heap.size + 1, 0, none⟩) ([0, q, k].map iv) ∧ Gr W V := by
  refine ⟨(Row.new _ _ _).alloc _, ?_, (Gr.alloc1 _ _).trans' (Gr.alloc1 _ _)⟩
  have := Row.new (W.alloc (.cells #[.int .i64 0, .int .i64 1, .int .i64 2, .int .i64 5] 3)) 3 [.int .i64 0, .int .i64 q, .int .i64 k]
  rw [show (W.alloc (.cells #[.int .i64 0, .int .i64 1, .int .i64 2, .int .i64 5] 3)).heap.size = W.heap.size + 1 by simp] at this
  exact Rd.of_row' (t := 3) this
set_option maxRecDepth 20000 in
set_option maxHeartbeats 16000000 in
theorem vfsHalves.walk (w : World) (A : Option Addr) (n c : Nat) (a : List UInt8) (hn : Hid (a.length = n)) (hr : Rd w A (a.map bv)) (hlc : n ≤ c) (hcm : c ≤ maxLen) (B : Option Addr) (n2 c2 : Nat) (b : List UInt8) (hn2 : Hid (b.length = n2)) (hr2 : Rd w B (b.map bv)) (hlc2 : n2 ≤ c2) (hcm2 : c2 ≤ maxLen)
    (r : Int) (r0 : -9223372036854775808 ≤ r) (r1 : r ≤ 9223372036854775807) :
    Calls Try.prog 8 #[.slice A n c, .slice B n2 c2, .int .i64 r] w fun e w' => e = .returned (.bool true) ∧ Gr w w' := by
  have hK := Lib.hid (known_any w)
  have hnc := Nat.le_trans hlc hcm
  have hnc2 := Nat.le_trans hlc2 hcm2
  unfold maxLen at hnc hnc2 hcm hcm2
  by_cases h100 : 100 < n
  · have h100' : (100 : Int) < n := by omega
    go_enter Try.func8, Try.ntmps8
    go_wp2_with (go_at_call 10; (with_reducible refine hK.out.mono ?_); rintro e w1 ⟨rfl, hg1⟩; clear hK)
    go_ret
    exact ⟨rfl, hg1⟩
  · have h100' : ¬ (100 : Int) < n := by omega
    by_cases h101 : 100 < n2
    · have h101' : (100 : Int) < n2 := by omega
      go_enter Try.func8, Try.ntmps8
      go_wp2_with (go_at_call 10; (with_reducible refine hK.out.mono ?_); rintro e w1 ⟨rfl, hg1⟩; clear hK)
      go_ret
      exact ⟨rfl, hg1⟩
    · have h101' : ¬ (100 : Int) < n2 := by omega
      have HN1 := Lib.hid (fun W => new_any 1000 W)
      have HWk := Lib.hid (fun W => within1_any r 4 W r0 r1 (by decide) (by decide))
      have hy0 := tdiv4 r0 r1
      have HWq := Lib.hid (fun W => within1_any ((r.tdiv 4)) 4 W hy0.1 hy0.2 (by decide) (by decide))
      have hkk : r % 4 = 0 ∨ r % 4 = 1 ∨ r % 4 = 2 ∨ r % 4 = 3 := by omega
      have hqq : (r.tdiv 4) % 4 = 0 ∨ (r.tdiv 4) % 4 = 1 ∨ (r.tdiv 4) % 4 = 2 ∨ (r.tdiv 4) % 4 = 3 := by omega
      have ha : a.length ≤ 100 := by have := hn.out; omega
      have hb : b.length ≤ 100 := by have := hn2.out; omega
      clear hy0
      rcases hkk with hk | hk | hk | hk
      · rcases hqq with hq | hq | hq | hq
        · rw [hk] at HWk
          rw [hq] at HWq
          have hrd : ((h5 a b).crash [0, 0, 0]).read [97] = (a, true, 0) := by rfl
          go_enter Try.func8, Try.ntmps8
          go_wp2_with (first
            | (go_at_call 10; (with_reducible refine hK.out.mono ?_); rintro e w1 ⟨rfl, hg1⟩; clear hK)
            | (go_at_call 12; (with_reducible refine (HN1.out _).mono ?_); rintro e w2 ⟨p, X, rfl, ha2, hg2, hx⟩
               have hS := Lib.hid (Sv.new ha2 (hg1.trans' hg2) (fun i hi => Nat.le_trans hg1.size (hx i hi)))
               have HA1 := Lib.hid (write_any hS.out.at_ ⟨by decide, by decide⟩ [97] (by decide) A n c a hn (hr.gr hS.out.gr) (by omega))
               rw [h1_eq a ha] at HA1
               clear HN1 ha2 hx)
            | (go_at_call 13; (with_reducible refine HA1.out.mono ?_); rintro e w3 ⟨rfl, X3, ha3, hm3⟩
               have hS3 := Lib.hid (hS.out.step ha3 hm3)
               have HF := Lib.hid (flush_any hS3.out.at_ (sm_h1 a))
               rw [h2_eq] at HF
               clear HA1 ha3 hm3 hS)
            | (go_at_call 19; (with_reducible refine HF.out.mono ?_); rintro e w4 ⟨rfl, X4, ha4, hm4⟩
               have hS4 := Lib.hid (hS3.out.step ha4 hm4)
               have HA2 := Lib.hid (write_any hS4.out.at_ (sm_h2 a) [97] (by decide) B n2 c2 b hn2 (hr2.gr hS4.out.gr) (by omega))
               rw [h3_eq a b hb] at HA2
               clear HF ha4 hm4 hS3)
            | (go_at_call 13; (with_reducible refine HA2.out.mono ?_); rintro e w5 ⟨rfl, X5, ha5, hm5⟩
               have hS5 := Lib.hid (hS4.out.step ha5 hm5)
               have HRm := Lib.hid (remove_any hS5.out.at_ (sm_h3 a b) [97] (by decide))
               rw [h4_eq] at HRm
               clear HA2 ha5 hm5 hS4)
            | (go_at_call 18; (with_reducible refine HRm.out.mono ?_); rintro e w6 ⟨rfl, X6, ha6, hm6⟩
               have hS6 := Lib.hid (hS5.out.step ha6 hm6)
               have HA3 := Lib.hid (write_any hS6.out.at_ (sm_h4 a b) [97] (by decide) B n2 c2 b hn2 (hr2.gr hS6.out.gr) (by omega))
               rw [h5_eq a b hb] at HA3
               clear HRm ha6 hm6 hS5)
            | (go_at_call 13; (with_reducible refine HA3.out.mono ?_); rintro e w7 ⟨rfl, X7, ha7, hm7⟩
               have hS7 := Lib.hid (hS6.out.step ha7 hm7)
               clear HA3 ha7 hm7 hS6)
            | (go_at_call 11; (with_reducible refine (HWk.out _).mono ?_); rintro e w8 ⟨rfl, rfl⟩; clear HWk)
            | (go_at_call 11; (with_reducible refine (HWq.out _).mono ?_); rintro e w9 ⟨rfl, rfl⟩)
            | (go_at_call 20
               obtain ⟨hl1, hl2, hgl⟩ := keeps w7 0 0
               have hnx : ∀ ad, (some ⟨w7.heap.size + 1, 0, none⟩ : Option Addr) = some ad → ¬ X7 ad.block := fun ad e hx => by
                 injection e with e
                 have h3 := hS7.out.at_.lt _ hx
                 rw [← e] at h3
                 simp only at h3
                 omega
               (with_reducible refine (crash_any (hS7.out.more hgl).at_ (sm_h5 a b) (some ⟨w7.heap.size + 1, 0, none⟩) 3 3 [0, 0, 0] (Lib.hid rfl) hl2 hnx (by omega)).mono ?_)
               rintro e wa ⟨rfl, Xa, haa, hma⟩
               have hSa := Lib.hid ((hS7.out.more hgl).step haa hma)
               have HR := Lib.hid (read_any hSa.out.at_ [97] (by decide))
               rw [hrd] at HR
               clear haa hma hS7 hl1 hl2 hgl hnx)
            | (go_at_call 16; (with_reducible refine HR.out.mono ?_); rintro e wb ⟨Ab, mb, cb, rfl, hmb, hob, hgb⟩
               replace hmb := Lib.hid hmb
               have hGb := hSa.out.gr.trans' hgb
               have sb := str_at cb hmb.out.symm hob.rd
               have sa := str_at c hn.out (hr.gr hGb)
               have s2 := str_at c2 hn2.out (hr2.gr hGb)
               clear HR hSa))
          go_ret
          exact ⟨rfl, hGb⟩
        · rw [hk] at HWk
          rw [hq] at HWq
          have hrd : ((h5 a b).crash [0, 1, 0]).read [97] = ([], false, 0) := by rfl
          go_enter Try.func8, Try.ntmps8
          go_wp2_with (first
            | (go_at_call 10; (with_reducible refine hK.out.mono ?_); rintro e w1 ⟨rfl, hg1⟩; clear hK)
            | (go_at_call 12; (with_reducible refine (HN1.out _).mono ?_); rintro e w2 ⟨p, X, rfl, ha2, hg2, hx⟩
               have hS := Lib.hid (Sv.new ha2 (hg1.trans' hg2) (fun i hi => Nat.le_trans hg1.size (hx i hi)))
               have HA1 := Lib.hid (write_any hS.out.at_ ⟨by decide, by decide⟩ [97] (by decide) A n c a hn (hr.gr hS.out.gr) (by omega))
               rw [h1_eq a ha] at HA1
               clear HN1 ha2 hx)
            | (go_at_call 13; (with_reducible refine HA1.out.mono ?_); rintro e w3 ⟨rfl, X3, ha3, hm3⟩
               have hS3 := Lib.hid (hS.out.step ha3 hm3)
               have HF := Lib.hid (flush_any hS3.out.at_ (sm_h1 a))
               rw [h2_eq] at HF
               clear HA1 ha3 hm3 hS)
            | (go_at_call 19; (with_reducible refine HF.out.mono ?_); rintro e w4 ⟨rfl, X4, ha4, hm4⟩
               have hS4 := Lib.hid (hS3.out.step ha4 hm4)
               have HA2 := Lib.hid (write_any hS4.out.at_ (sm_h2 a) [97] (by decide) B n2 c2 b hn2 (hr2.gr hS4.out.gr) (by omega))
               rw [h3_eq a b hb] at HA2
               clear HF ha4 hm4 hS3)
            | (go_at_call 13; (with_reducible refine HA2.out.mono ?_); rintro e w5 ⟨rfl, X5, ha5, hm5⟩
               have hS5 := Lib.hid (hS4.out.step ha5 hm5)
               have HRm := Lib.hid (remove_any hS5.out.at_ (sm_h3 a b) [97] (by decide))
               rw [h4_eq] at HRm
               clear HA2 ha5 hm5 hS4)
            | (go_at_call 18; (with_reducible refine HRm.out.mono ?_); rintro e w6 ⟨rfl, X6, ha6, hm6⟩
               have hS6 := Lib.hid (hS5.out.step ha6 hm6)
               have HA3 := Lib.hid (write_any hS6.out.at_ (sm_h4 a b) [97] (by decide) B n2 c2 b hn2 (hr2.gr hS6.out.gr) (by omega))
               rw [h5_eq a b hb] at HA3
               clear HRm ha6 hm6 hS5)
            | (go_at_call 13; (with_reducible refine HA3.out.mono ?_); rintro e w7 ⟨rfl, X7, ha7, hm7⟩
               have hS7 := Lib.hid (hS6.out.step ha7 hm7)
               clear HA3 ha7 hm7 hS6)
            | (go_at_call 11; (with_reducible refine (HWk.out _).mono ?_); rintro e w8 ⟨rfl, rfl⟩; clear HWk)
            | (go_at_call 11; (with_reducible refine (HWq.out _).mono ?_); rintro e w9 ⟨rfl, rfl⟩)
            | (go_at_call 20
               obtain ⟨hl1, hl2, hgl⟩ := keeps w7 1 0
               have hnx : ∀ ad, (some ⟨w7.heap.size + 1, 0, none⟩ : Option Addr) = some ad → ¬ X7 ad.block := fun ad e hx => by
                 injection e with e
                 have h3 := hS7.out.at_.lt _ hx
                 rw [← e] at h3
                 simp only at h3
                 omega
               (with_reducible refine (crash_any (hS7.out.more hgl).at_ (sm_h5 a b) (some ⟨w7.heap.size + 1, 0, none⟩) 3 3 [0, 1, 0] (Lib.hid rfl) hl2 hnx (by omega)).mono ?_)
               rintro e wa ⟨rfl, Xa, haa, hma⟩
               have hSa := Lib.hid ((hS7.out.more hgl).step haa hma)
               have HR := Lib.hid (read_any hSa.out.at_ [97] (by decide))
               rw [hrd] at HR
               clear haa hma hS7 hl1 hl2 hgl hnx)
            | (go_at_call 16; (with_reducible refine HR.out.mono ?_); rintro e wb ⟨Ab, mb, cb, rfl, hmb, hob, hgb⟩
               replace hmb := Lib.hid hmb
               have hGb := hSa.out.gr.trans' hgb
               have sb := str_at cb hmb.out.symm hob.rd
               have sa := str_at c hn.out (hr.gr hGb)
               have s2 := str_at c2 hn2.out (hr2.gr hGb)
               clear HR hSa))
          go_ret
          exact ⟨rfl, hGb⟩
        · rw [hk] at HWk
          rw [hq] at HWq
          have hrd : ((h5 a b).crash [0, 2, 0]).read [97] = ([], false, 0) := by rfl
          go_enter Try.func8, Try.ntmps8
          go_wp2_with (first
            | (go_at_call 10; (with_reducible refine hK.out.mono ?_); rintro e w1 ⟨rfl, hg1⟩; clear hK)
            | (go_at_call 12; (with_reducible refine (HN1.out _).mono ?_); rintro e w2 ⟨p, X, rfl, ha2, hg2, hx⟩
               have hS := Lib.hid (Sv.new ha2 (hg1.trans' hg2) (fun i hi => Nat.le_trans hg1.size (hx i hi)))
               have HA1 := Lib.hid (write_any hS.out.at_ ⟨by decide, by decide⟩ [97] (by decide) A n c a hn (hr.gr hS.out.gr) (by omega))
               rw [h1_eq a ha] at HA1
               clear HN1 ha2 hx)
            | (go_at_call 13; (with_reducible refine HA1.out.mono ?_); rintro e w3 ⟨rfl, X3, ha3, hm3⟩
               have hS3 := Lib.hid (hS.out.step ha3 hm3)
               have HF := Lib.hid (flush_any hS3.out.at_ (sm_h1 a))
               rw [h2_eq] at HF
               clear HA1 ha3 hm3 hS)
            | (go_at_call 19; (with_reducible refine HF.out.mono ?_); rintro e w4 ⟨rfl, X4, ha4, hm4⟩
               have hS4 := Lib.hid (hS3.out.step ha4 hm4)
               have HA2 := Lib.hid (write_any hS4.out.at_ (sm_h2 a) [97] (by decide) B n2 c2 b hn2 (hr2.gr hS4.out.gr) (by omega))
               rw [h3_eq a b hb] at HA2
               clear HF ha4 hm4 hS3)
            | (go_at_call 13; (with_reducible refine HA2.out.mono ?_); rintro e w5 ⟨rfl, X5, ha5, hm5⟩
               have hS5 := Lib.hid (hS4.out.step ha5 hm5)
               have HRm := Lib.hid (remove_any hS5.out.at_ (sm_h3 a b) [97] (by decide))
               rw [h4_eq] at HRm
               clear HA2 ha5 hm5 hS4)
            | (go_at_call 18; (with_reducible refine HRm.out.mono ?_); rintro e w6 ⟨rfl, X6, ha6, hm6⟩
               have hS6 := Lib.hid (hS5.out.step ha6 hm6)
               have HA3 := Lib.hid (write_any hS6.out.at_ (sm_h4 a b) [97] (by decide) B n2 c2 b hn2 (hr2.gr hS6.out.gr) (by omega))
               rw [h5_eq a b hb] at HA3
               clear HRm ha6 hm6 hS5)
            | (go_at_call 13; (with_reducible refine HA3.out.mono ?_); rintro e w7 ⟨rfl, X7, ha7, hm7⟩
               have hS7 := Lib.hid (hS6.out.step ha7 hm7)
               clear HA3 ha7 hm7 hS6)
            | (go_at_call 11; (with_reducible refine (HWk.out _).mono ?_); rintro e w8 ⟨rfl, rfl⟩; clear HWk)
            | (go_at_call 11; (with_reducible refine (HWq.out _).mono ?_); rintro e w9 ⟨rfl, rfl⟩)
            | (go_at_call 20
               obtain ⟨hl1, hl2, hgl⟩ := keeps w7 2 0
               have hnx : ∀ ad, (some ⟨w7.heap.size + 1, 0, none⟩ : Option Addr) = some ad → ¬ X7 ad.block := fun ad e hx => by
                 injection e with e
                 have h3 := hS7.out.at_.lt _ hx
                 rw [← e] at h3
                 simp only at h3
                 omega
               (with_reducible refine (crash_any (hS7.out.more hgl).at_ (sm_h5 a b) (some ⟨w7.heap.size + 1, 0, none⟩) 3 3 [0, 2, 0] (Lib.hid rfl) hl2 hnx (by omega)).mono ?_)
               rintro e wa ⟨rfl, Xa, haa, hma⟩
               have hSa := Lib.hid ((hS7.out.more hgl).step haa hma)
               have HR := Lib.hid (read_any hSa.out.at_ [97] (by decide))
               rw [hrd] at HR
               clear haa hma hS7 hl1 hl2 hgl hnx)
            | (go_at_call 16; (with_reducible refine HR.out.mono ?_); rintro e wb ⟨Ab, mb, cb, rfl, hmb, hob, hgb⟩
               replace hmb := Lib.hid hmb
               have hGb := hSa.out.gr.trans' hgb
               have sb := str_at cb hmb.out.symm hob.rd
               have sa := str_at c hn.out (hr.gr hGb)
               have s2 := str_at c2 hn2.out (hr2.gr hGb)
               clear HR hSa))
          go_ret
          exact ⟨rfl, hGb⟩
        · rw [hk] at HWk
          rw [hq] at HWq
          have hrd : ((h5 a b).crash [0, 5, 0]).read [97] = (a, true, 0) := by rfl
          go_enter Try.func8, Try.ntmps8
          go_wp2_with (first
            | (go_at_call 10; (with_reducible refine hK.out.mono ?_); rintro e w1 ⟨rfl, hg1⟩; clear hK)
            | (go_at_call 12; (with_reducible refine (HN1.out _).mono ?_); rintro e w2 ⟨p, X, rfl, ha2, hg2, hx⟩
               have hS := Lib.hid (Sv.new ha2 (hg1.trans' hg2) (fun i hi => Nat.le_trans hg1.size (hx i hi)))
               have HA1 := Lib.hid (write_any hS.out.at_ ⟨by decide, by decide⟩ [97] (by decide) A n c a hn (hr.gr hS.out.gr) (by omega))
               rw [h1_eq a ha] at HA1
               clear HN1 ha2 hx)
            | (go_at_call 13; (with_reducible refine HA1.out.mono ?_); rintro e w3 ⟨rfl, X3, ha3, hm3⟩
               have hS3 := Lib.hid (hS.out.step ha3 hm3)
               have HF := Lib.hid (flush_any hS3.out.at_ (sm_h1 a))
               rw [h2_eq] at HF
               clear HA1 ha3 hm3 hS)
            | (go_at_call 19; (with_reducible refine HF.out.mono ?_); rintro e w4 ⟨rfl, X4, ha4, hm4⟩
               have hS4 := Lib.hid (hS3.out.step ha4 hm4)
               have HA2 := Lib.hid (write_any hS4.out.at_ (sm_h2 a) [97] (by decide) B n2 c2 b hn2 (hr2.gr hS4.out.gr) (by omega))
               rw [h3_eq a b hb] at HA2
               clear HF ha4 hm4 hS3)
            | (go_at_call 13; (with_reducible refine HA2.out.mono ?_); rintro e w5 ⟨rfl, X5, ha5, hm5⟩
               have hS5 := Lib.hid (hS4.out.step ha5 hm5)
               have HRm := Lib.hid (remove_any hS5.out.at_ (sm_h3 a b) [97] (by decide))
               rw [h4_eq] at HRm
               clear HA2 ha5 hm5 hS4)
            | (go_at_call 18; (with_reducible refine HRm.out.mono ?_); rintro e w6 ⟨rfl, X6, ha6, hm6⟩
               have hS6 := Lib.hid (hS5.out.step ha6 hm6)
               have HA3 := Lib.hid (write_any hS6.out.at_ (sm_h4 a b) [97] (by decide) B n2 c2 b hn2 (hr2.gr hS6.out.gr) (by omega))
               rw [h5_eq a b hb] at HA3
               clear HRm ha6 hm6 hS5)
            | (go_at_call 13; (with_reducible refine HA3.out.mono ?_); rintro e w7 ⟨rfl, X7, ha7, hm7⟩
               have hS7 := Lib.hid (hS6.out.step ha7 hm7)
               clear HA3 ha7 hm7 hS6)
            | (go_at_call 11; (with_reducible refine (HWk.out _).mono ?_); rintro e w8 ⟨rfl, rfl⟩; clear HWk)
            | (go_at_call 11; (with_reducible refine (HWq.out _).mono ?_); rintro e w9 ⟨rfl, rfl⟩)
            | (go_at_call 20
               obtain ⟨hl1, hl2, hgl⟩ := keeps w7 5 0
               have hnx : ∀ ad, (some ⟨w7.heap.size + 1, 0, none⟩ : Option Addr) = some ad → ¬ X7 ad.block := fun ad e hx => by
                 injection e with e
                 have h3 := hS7.out.at_.lt _ hx
                 rw [← e] at h3
                 simp only at h3
                 omega
               (with_reducible refine (crash_any (hS7.out.more hgl).at_ (sm_h5 a b) (some ⟨w7.heap.size + 1, 0, none⟩) 3 3 [0, 5, 0] (Lib.hid rfl) hl2 hnx (by omega)).mono ?_)
               rintro e wa ⟨rfl, Xa, haa, hma⟩
               have hSa := Lib.hid ((hS7.out.more hgl).step haa hma)
               have HR := Lib.hid (read_any hSa.out.at_ [97] (by decide))
               rw [hrd] at HR
               clear haa hma hS7 hl1 hl2 hgl hnx)
            | (go_at_call 16; (with_reducible refine HR.out.mono ?_); rintro e wb ⟨Ab, mb, cb, rfl, hmb, hob, hgb⟩
               replace hmb := Lib.hid hmb
               have hGb := hSa.out.gr.trans' hgb
               have sb := str_at cb hmb.out.symm hob.rd
               have sa := str_at c hn.out (hr.gr hGb)
               have s2 := str_at c2 hn2.out (hr2.gr hGb)
               clear HR hSa))
          go_ret
          exact ⟨rfl, hGb⟩
      · rcases hqq with hq | hq | hq | hq
        · rw [hk] at HWk
          rw [hq] at HWq
          have hrd : ((h5 a b).crash [0, 0, 1]).read [97] = (b, true, 0) := by rfl
          go_enter Try.func8, Try.ntmps8
          go_wp2_with (first
            | (go_at_call 10; (with_reducible refine hK.out.mono ?_); rintro e w1 ⟨rfl, hg1⟩; clear hK)
            | (go_at_call 12; (with_reducible refine (HN1.out _).mono ?_); rintro e w2 ⟨p, X, rfl, ha2, hg2, hx⟩
               have hS := Lib.hid (Sv.new ha2 (hg1.trans' hg2) (fun i hi => Nat.le_trans hg1.size (hx i hi)))
               have HA1 := Lib.hid (write_any hS.out.at_ ⟨by decide, by decide⟩ [97] (by decide) A n c a hn (hr.gr hS.out.gr) (by omega))
               rw [h1_eq a ha] at HA1
               clear HN1 ha2 hx)
            | (go_at_call 13; (with_reducible refine HA1.out.mono ?_); rintro e w3 ⟨rfl, X3, ha3, hm3⟩
               have hS3 := Lib.hid (hS.out.step ha3 hm3)
               have HF := Lib.hid (flush_any hS3.out.at_ (sm_h1 a))
               rw [h2_eq] at HF
               clear HA1 ha3 hm3 hS)
            | (go_at_call 19; (with_reducible refine HF.out.mono ?_); rintro e w4 ⟨rfl, X4, ha4, hm4⟩
               have hS4 := Lib.hid (hS3.out.step ha4 hm4)
               have HA2 := Lib.hid (write_any hS4.out.at_ (sm_h2 a) [97] (by decide) B n2 c2 b hn2 (hr2.gr hS4.out.gr) (by omega))
               rw [h3_eq a b hb] at HA2
               clear HF ha4 hm4 hS3)
            | (go_at_call 13; (with_reducible refine HA2.out.mono ?_); rintro e w5 ⟨rfl, X5, ha5, hm5⟩
               have hS5 := Lib.hid (hS4.out.step ha5 hm5)
               have HRm := Lib.hid (remove_any hS5.out.at_ (sm_h3 a b) [97] (by decide))
               rw [h4_eq] at HRm
               clear HA2 ha5 hm5 hS4)
            | (go_at_call 18; (with_reducible refine HRm.out.mono ?_); rintro e w6 ⟨rfl, X6, ha6, hm6⟩
               have hS6 := Lib.hid (hS5.out.step ha6 hm6)
               have HA3 := Lib.hid (write_any hS6.out.at_ (sm_h4 a b) [97] (by decide) B n2 c2 b hn2 (hr2.gr hS6.out.gr) (by omega))
               rw [h5_eq a b hb] at HA3
               clear HRm ha6 hm6 hS5)
            | (go_at_call 13; (with_reducible refine HA3.out.mono ?_); rintro e w7 ⟨rfl, X7, ha7, hm7⟩
               have hS7 := Lib.hid (hS6.out.step ha7 hm7)
               clear HA3 ha7 hm7 hS6)
            | (go_at_call 11; (with_reducible refine (HWk.out _).mono ?_); rintro e w8 ⟨rfl, rfl⟩; clear HWk)
            | (go_at_call 11; (with_reducible refine (HWq.out _).mono ?_); rintro e w9 ⟨rfl, rfl⟩)
            | (go_at_call 20
               obtain ⟨hl1, hl2, hgl⟩ := keeps w7 0 1
               have hnx : ∀ ad, (some ⟨w7.heap.size + 1, 0, none⟩ : Option Addr) = some ad → ¬ X7 ad.block := fun ad e hx => by
                 injection e with e
                 have h3 := hS7.out.at_.lt _ hx
                 rw [← e] at h3
                 simp only at h3
                 omega
               (with_reducible refine (crash_any (hS7.out.more hgl).at_ (sm_h5 a b) (some ⟨w7.heap.size + 1, 0, none⟩) 3 3 [0, 0, 1] (Lib.hid rfl) hl2 hnx (by omega)).mono ?_)
               rintro e wa ⟨rfl, Xa, haa, hma⟩
               have hSa := Lib.hid ((hS7.out.more hgl).step haa hma)
               have HR := Lib.hid (read_any hSa.out.at_ [97] (by decide))
               rw [hrd] at HR
               clear haa hma hS7 hl1 hl2 hgl hnx)
            | (go_at_call 16; (with_reducible refine HR.out.mono ?_); rintro e wb ⟨Ab, mb, cb, rfl, hmb, hob, hgb⟩
               replace hmb := Lib.hid hmb
               have hGb := hSa.out.gr.trans' hgb
               have sb := str_at cb hmb.out.symm hob.rd
               have sa := str_at c hn.out (hr.gr hGb)
               have s2 := str_at c2 hn2.out (hr2.gr hGb)
               clear HR hSa))
          go_ret
          exact ⟨rfl, hGb⟩
        · rw [hk] at HWk
          rw [hq] at HWq
          have hrd : ((h5 a b).crash [0, 1, 1]).read [97] = (b, true, 0) := by rfl
          go_enter Try.func8, Try.ntmps8
          go_wp2_with (first
            | (go_at_call 10; (with_reducible refine hK.out.mono ?_); rintro e w1 ⟨rfl, hg1⟩; clear hK)
            | (go_at_call 12; (with_reducible refine (HN1.out _).mono ?_); rintro e w2 ⟨p, X, rfl, ha2, hg2, hx⟩
               have hS := Lib.hid (Sv.new ha2 (hg1.trans' hg2) (fun i hi => Nat.le_trans hg1.size (hx i hi)))
               have HA1 := Lib.hid (write_any hS.out.at_ ⟨by decide, by decide⟩ [97] (by decide) A n c a hn (hr.gr hS.out.gr) (by omega))
               rw [h1_eq a ha] at HA1
               clear HN1 ha2 hx)
            | (go_at_call 13; (with_reducible refine HA1.out.mono ?_); rintro e w3 ⟨rfl, X3, ha3, hm3⟩
               have hS3 := Lib.hid (hS.out.step ha3 hm3)
               have HF := Lib.hid (flush_any hS3.out.at_ (sm_h1 a))
               rw [h2_eq] at HF
               clear HA1 ha3 hm3 hS)
            | (go_at_call 19; (with_reducible refine HF.out.mono ?_); rintro e w4 ⟨rfl, X4, ha4, hm4⟩
               have hS4 := Lib.hid (hS3.out.step ha4 hm4)
               have HA2 := Lib.hid (write_any hS4.out.at_ (sm_h2 a) [97] (by decide) B n2 c2 b hn2 (hr2.gr hS4.out.gr) (by omega))
               rw [h3_eq a b hb] at HA2
               clear HF ha4 hm4 hS3)
            | (go_at_call 13; (with_reducible refine HA2.out.mono ?_); rintro e w5 ⟨rfl, X5, ha5, hm5⟩
               have hS5 := Lib.hid (hS4.out.step ha5 hm5)
               have HRm := Lib.hid (remove_any hS5.out.at_ (sm_h3 a b) [97] (by decide))
               rw [h4_eq] at HRm
               clear HA2 ha5 hm5 hS4)
            | (go_at_call 18; (with_reducible refine HRm.out.mono ?_); rintro e w6 ⟨rfl, X6, ha6, hm6⟩
               have hS6 := Lib.hid (hS5.out.step ha6 hm6)
               have HA3 := Lib.hid (write_any hS6.out.at_ (sm_h4 a b) [97] (by decide) B n2 c2 b hn2 (hr2.gr hS6.out.gr) (by omega))
               rw [h5_eq a b hb] at HA3
               clear HRm ha6 hm6 hS5)
            | (go_at_call 13; (with_reducible refine HA3.out.mono ?_); rintro e w7 ⟨rfl, X7, ha7, hm7⟩
               have hS7 := Lib.hid (hS6.out.step ha7 hm7)
               clear HA3 ha7 hm7 hS6)
            | (go_at_call 11; (with_reducible refine (HWk.out _).mono ?_); rintro e w8 ⟨rfl, rfl⟩; clear HWk)
            | (go_at_call 11; (with_reducible refine (HWq.out _).mono ?_); rintro e w9 ⟨rfl, rfl⟩)
            | (go_at_call 20
               obtain ⟨hl1, hl2, hgl⟩ := keeps w7 1 1
               have hnx : ∀ ad, (some ⟨w7.heap.size + 1, 0, none⟩ : Option Addr) = some ad → ¬ X7 ad.block := fun ad e hx => by
                 injection e with e
                 have h3 := hS7.out.at_.lt _ hx
                 rw [← e] at h3
                 simp only at h3
                 omega
               (with_reducible refine (crash_any (hS7.out.more hgl).at_ (sm_h5 a b) (some ⟨w7.heap.size + 1, 0, none⟩) 3 3 [0, 1, 1] (Lib.hid rfl) hl2 hnx (by omega)).mono ?_)
               rintro e wa ⟨rfl, Xa, haa, hma⟩
               have hSa := Lib.hid ((hS7.out.more hgl).step haa hma)
               have HR := Lib.hid (read_any hSa.out.at_ [97] (by decide))
               rw [hrd] at HR
               clear haa hma hS7 hl1 hl2 hgl hnx)
            | (go_at_call 16; (with_reducible refine HR.out.mono ?_); rintro e wb ⟨Ab, mb, cb, rfl, hmb, hob, hgb⟩
               replace hmb := Lib.hid hmb
               have hGb := hSa.out.gr.trans' hgb
               have sb := str_at cb hmb.out.symm hob.rd
               have sa := str_at c hn.out (hr.gr hGb)
               have s2 := str_at c2 hn2.out (hr2.gr hGb)
               clear HR hSa))
          go_ret
          exact ⟨rfl, hGb⟩
        · rw [hk] at HWk
          rw [hq] at HWq
          have hrd : ((h5 a b).crash [0, 2, 1]).read [97] = (b, true, 0) := by rfl
          go_enter Try.func8, Try.ntmps8
          go_wp2_with (first
            | (go_at_call 10; (with_reducible refine hK.out.mono ?_); rintro e w1 ⟨rfl, hg1⟩; clear hK)
            | (go_at_call 12; (with_reducible refine (HN1.out _).mono ?_); rintro e w2 ⟨p, X, rfl, ha2, hg2, hx⟩
               have hS := Lib.hid (Sv.new ha2 (hg1.trans' hg2) (fun i hi => Nat.le_trans hg1.size (hx i hi)))
               have HA1 := Lib.hid (write_any hS.out.at_ ⟨by decide, by decide⟩ [97] (by decide) A n c a hn (hr.gr hS.out.gr) (by omega))
               rw [h1_eq a ha] at HA1
               clear HN1 ha2 hx)
            | (go_at_call 13; (with_reducible refine HA1.out.mono ?_); rintro e w3 ⟨rfl, X3, ha3, hm3⟩
               have hS3 := Lib.hid (hS.out.step ha3 hm3)
               have HF := Lib.hid (flush_any hS3.out.at_ (sm_h1 a))
               rw [h2_eq] at HF
               clear HA1 ha3 hm3 hS)
            | (go_at_call 19; (with_reducible refine HF.out.mono ?_); rintro e w4 ⟨rfl, X4, ha4, hm4⟩
               have hS4 := Lib.hid (hS3.out.step ha4 hm4)
               have HA2 := Lib.hid (write_any hS4.out.at_ (sm_h2 a) [97] (by decide) B n2 c2 b hn2 (hr2.gr hS4.out.gr) (by omega))
               rw [h3_eq a b hb] at HA2
               clear HF ha4 hm4 hS3)
            | (go_at_call 13; (with_reducible refine HA2.out.mono ?_); rintro e w5 ⟨rfl, X5, ha5, hm5⟩
               have hS5 := Lib.hid (hS4.out.step ha5 hm5)
               have HRm := Lib.hid (remove_any hS5.out.at_ (sm_h3 a b) [97] (by decide))
               rw [h4_eq] at HRm
               clear HA2 ha5 hm5 hS4)
            | (go_at_call 18; (with_reducible refine HRm.out.mono ?_); rintro e w6 ⟨rfl, X6, ha6, hm6⟩
               have hS6 := Lib.hid (hS5.out.step ha6 hm6)
               have HA3 := Lib.hid (write_any hS6.out.at_ (sm_h4 a b) [97] (by decide) B n2 c2 b hn2 (hr2.gr hS6.out.gr) (by omega))
               rw [h5_eq a b hb] at HA3
               clear HRm ha6 hm6 hS5)
            | (go_at_call 13; (with_reducible refine HA3.out.mono ?_); rintro e w7 ⟨rfl, X7, ha7, hm7⟩
               have hS7 := Lib.hid (hS6.out.step ha7 hm7)
               clear HA3 ha7 hm7 hS6)
            | (go_at_call 11; (with_reducible refine (HWk.out _).mono ?_); rintro e w8 ⟨rfl, rfl⟩; clear HWk)
            | (go_at_call 11; (with_reducible refine (HWq.out _).mono ?_); rintro e w9 ⟨rfl, rfl⟩)
            | (go_at_call 20
               obtain ⟨hl1, hl2, hgl⟩ := keeps w7 2 1
               have hnx : ∀ ad, (some ⟨w7.heap.size + 1, 0, none⟩ : Option Addr) = some ad → ¬ X7 ad.block := fun ad e hx => by
                 injection e with e
                 have h3 := hS7.out.at_.lt _ hx
                 rw [← e] at h3
                 simp only at h3
                 omega
               (with_reducible refine (crash_any (hS7.out.more hgl).at_ (sm_h5 a b) (some ⟨w7.heap.size + 1, 0, none⟩) 3 3 [0, 2, 1] (Lib.hid rfl) hl2 hnx (by omega)).mono ?_)
               rintro e wa ⟨rfl, Xa, haa, hma⟩
               have hSa := Lib.hid ((hS7.out.more hgl).step haa hma)
               have HR := Lib.hid (read_any hSa.out.at_ [97] (by decide))
               rw [hrd] at HR
               clear haa hma hS7 hl1 hl2 hgl hnx)
            | (go_at_call 16; (with_reducible refine HR.out.mono ?_); rintro e wb ⟨Ab, mb, cb, rfl, hmb, hob, hgb⟩
               replace hmb := Lib.hid hmb
               have hGb := hSa.out.gr.trans' hgb
               have sb := str_at cb hmb.out.symm hob.rd
               have sa := str_at c hn.out (hr.gr hGb)
               have s2 := str_at c2 hn2.out (hr2.gr hGb)
               clear HR hSa))
          go_ret
          exact ⟨rfl, hGb⟩
        · rw [hk] at HWk
          rw [hq] at HWq
          have hrd : ((h5 a b).crash [0, 5, 1]).read [97] = (b, true, 0) := by rfl
          go_enter Try.func8, Try.ntmps8
          go_wp2_with (first
            | (go_at_call 10; (with_reducible refine hK.out.mono ?_); rintro e w1 ⟨rfl, hg1⟩; clear hK)
            | (go_at_call 12; (with_reducible refine (HN1.out _).mono ?_); rintro e w2 ⟨p, X, rfl, ha2, hg2, hx⟩
               have hS := Lib.hid (Sv.new ha2 (hg1.trans' hg2) (fun i hi => Nat.le_trans hg1.size (hx i hi)))
               have HA1 := Lib.hid (write_any hS.out.at_ ⟨by decide, by decide⟩ [97] (by decide) A n c a hn (hr.gr hS.out.gr) (by omega))
               rw [h1_eq a ha] at HA1
               clear HN1 ha2 hx)
            | (go_at_call 13; (with_reducible refine HA1.out.mono ?_); rintro e w3 ⟨rfl, X3, ha3, hm3⟩
               have hS3 := Lib.hid (hS.out.step ha3 hm3)
               have HF := Lib.hid (flush_any hS3.out.at_ (sm_h1 a))
               rw [h2_eq] at HF
               clear HA1 ha3 hm3 hS)
            | (go_at_call 19; (with_reducible refine HF.out.mono ?_); rintro e w4 ⟨rfl, X4, ha4, hm4⟩
               have hS4 := Lib.hid (hS3.out.step ha4 hm4)
               have HA2 := Lib.hid (write_any hS4.out.at_ (sm_h2 a) [97] (by decide) B n2 c2 b hn2 (hr2.gr hS4.out.gr) (by omega))
               rw [h3_eq a b hb] at HA2
               clear HF ha4 hm4 hS3)
            | (go_at_call 13; (with_reducible refine HA2.out.mono ?_); rintro e w5 ⟨rfl, X5, ha5, hm5⟩
               have hS5 := Lib.hid (hS4.out.step ha5 hm5)
               have HRm := Lib.hid (remove_any hS5.out.at_ (sm_h3 a b) [97] (by decide))
               rw [h4_eq] at HRm
               clear HA2 ha5 hm5 hS4)
            | (go_at_call 18; (with_reducible refine HRm.out.mono ?_); rintro e w6 ⟨rfl, X6, ha6, hm6⟩
               have hS6 := Lib.hid (hS5.out.step ha6 hm6)
               have HA3 := Lib.hid (write_any hS6.out.at_ (sm_h4 a b) [97] (by decide) B n2 c2 b hn2 (hr2.gr hS6.out.gr) (by omega))
               rw [h5_eq a b hb] at HA3
               clear HRm ha6 hm6 hS5)
            | (go_at_call 13; (with_reducible refine HA3.out.mono ?_); rintro e w7 ⟨rfl, X7, ha7, hm7⟩
               have hS7 := Lib.hid (hS6.out.step ha7 hm7)
               clear HA3 ha7 hm7 hS6)
            | (go_at_call 11; (with_reducible refine (HWk.out _).mono ?_); rintro e w8 ⟨rfl, rfl⟩; clear HWk)
            | (go_at_call 11; (with_reducible refine (HWq.out _).mono ?_); rintro e w9 ⟨rfl, rfl⟩)
            | (go_at_call 20
               obtain ⟨hl1, hl2, hgl⟩ := keeps w7 5 1
               have hnx : ∀ ad, (some ⟨w7.heap.size + 1, 0, none⟩ : Option Addr) = some ad → ¬ X7 ad.block := fun ad e hx => by
                 injection e with e
                 have h3 := hS7.out.at_.lt _ hx
                 rw [← e] at h3
                 simp only at h3
                 omega
               (with_reducible refine (crash_any (hS7.out.more hgl).at_ (sm_h5 a b) (some ⟨w7.heap.size + 1, 0, none⟩) 3 3 [0, 5, 1] (Lib.hid rfl) hl2 hnx (by omega)).mono ?_)
               rintro e wa ⟨rfl, Xa, haa, hma⟩
               have hSa := Lib.hid ((hS7.out.more hgl).step haa hma)
               have HR := Lib.hid (read_any hSa.out.at_ [97] (by decide))
               rw [hrd] at HR
               clear haa hma hS7 hl1 hl2 hgl hnx)
            | (go_at_call 16; (with_reducible refine HR.out.mono ?_); rintro e wb ⟨Ab, mb, cb, rfl, hmb, hob, hgb⟩
               replace hmb := Lib.hid hmb
               have hGb := hSa.out.gr.trans' hgb
               have sb := str_at cb hmb.out.symm hob.rd
               have sa := str_at c hn.out (hr.gr hGb)
               have s2 := str_at c2 hn2.out (hr2.gr hGb)
               clear HR hSa))
          go_ret
          exact ⟨rfl, hGb⟩
      · rcases hqq with hq | hq | hq | hq
        · rw [hk] at HWk
          rw [hq] at HWq
          have hrd : ((h5 a b).crash [0, 0, 2]).read [97] = (b.take (b.length / 2), true, 0) := by rfl
          go_enter Try.func8, Try.ntmps8
          go_wp2_with (first
            | (go_at_call 10; (with_reducible refine hK.out.mono ?_); rintro e w1 ⟨rfl, hg1⟩; clear hK)
            | (go_at_call 12; (with_reducible refine (HN1.out _).mono ?_); rintro e w2 ⟨p, X, rfl, ha2, hg2, hx⟩
               have hS := Lib.hid (Sv.new ha2 (hg1.trans' hg2) (fun i hi => Nat.le_trans hg1.size (hx i hi)))
               have HA1 := Lib.hid (write_any hS.out.at_ ⟨by decide, by decide⟩ [97] (by decide) A n c a hn (hr.gr hS.out.gr) (by omega))
               rw [h1_eq a ha] at HA1
               clear HN1 ha2 hx)
            | (go_at_call 13; (with_reducible refine HA1.out.mono ?_); rintro e w3 ⟨rfl, X3, ha3, hm3⟩
               have hS3 := Lib.hid (hS.out.step ha3 hm3)
               have HF := Lib.hid (flush_any hS3.out.at_ (sm_h1 a))
               rw [h2_eq] at HF
               clear HA1 ha3 hm3 hS)
            | (go_at_call 19; (with_reducible refine HF.out.mono ?_); rintro e w4 ⟨rfl, X4, ha4, hm4⟩
               have hS4 := Lib.hid (hS3.out.step ha4 hm4)
               have HA2 := Lib.hid (write_any hS4.out.at_ (sm_h2 a) [97] (by decide) B n2 c2 b hn2 (hr2.gr hS4.out.gr) (by omega))
               rw [h3_eq a b hb] at HA2
               clear HF ha4 hm4 hS3)
            | (go_at_call 13; (with_reducible refine HA2.out.mono ?_); rintro e w5 ⟨rfl, X5, ha5, hm5⟩
               have hS5 := Lib.hid (hS4.out.step ha5 hm5)
               have HRm := Lib.hid (remove_any hS5.out.at_ (sm_h3 a b) [97] (by decide))
               rw [h4_eq] at HRm
               clear HA2 ha5 hm5 hS4)
            | (go_at_call 18; (with_reducible refine HRm.out.mono ?_); rintro e w6 ⟨rfl, X6, ha6, hm6⟩
               have hS6 := Lib.hid (hS5.out.step ha6 hm6)
               have HA3 := Lib.hid (write_any hS6.out.at_ (sm_h4 a b) [97] (by decide) B n2 c2 b hn2 (hr2.gr hS6.out.gr) (by omega))
               rw [h5_eq a b hb] at HA3
               clear HRm ha6 hm6 hS5)
            | (go_at_call 13; (with_reducible refine HA3.out.mono ?_); rintro e w7 ⟨rfl, X7, ha7, hm7⟩
               have hS7 := Lib.hid (hS6.out.step ha7 hm7)
               clear HA3 ha7 hm7 hS6)
            | (go_at_call 11; (with_reducible refine (HWk.out _).mono ?_); rintro e w8 ⟨rfl, rfl⟩; clear HWk)
            | (go_at_call 11; (with_reducible refine (HWq.out _).mono ?_); rintro e w9 ⟨rfl, rfl⟩)
            | (go_at_call 20
               obtain ⟨hl1, hl2, hgl⟩ := keeps w7 0 2
               have hnx : ∀ ad, (some ⟨w7.heap.size + 1, 0, none⟩ : Option Addr) = some ad → ¬ X7 ad.block := fun ad e hx => by
                 injection e with e
                 have h3 := hS7.out.at_.lt _ hx
                 rw [← e] at h3
                 simp only at h3
                 omega
               (with_reducible refine (crash_any (hS7.out.more hgl).at_ (sm_h5 a b) (some ⟨w7.heap.size + 1, 0, none⟩) 3 3 [0, 0, 2] (Lib.hid rfl) hl2 hnx (by omega)).mono ?_)
               rintro e wa ⟨rfl, Xa, haa, hma⟩
               have hSa := Lib.hid ((hS7.out.more hgl).step haa hma)
               have HR := Lib.hid (read_any hSa.out.at_ [97] (by decide))
               rw [hrd] at HR
               clear haa hma hS7 hl1 hl2 hgl hnx)
            | (go_at_call 16; (with_reducible refine HR.out.mono ?_); rintro e wb ⟨Ab, mb, cb, rfl, hmb, hob, hgb⟩
               replace hmb := Lib.hid hmb
               have hGb := hSa.out.gr.trans' hgb
               have sb := str_at cb hmb.out.symm hob.rd
               have sa := str_at c hn.out (hr.gr hGb)
               have s2 := str_at c2 hn2.out (hr2.gr hGb)
               clear HR hSa))
          have hmbo : (b.take (b.length / 2)).length = n2 / 2 := by rw [List.length_take]; have := hn2.out; omega
          have sbd : (convert 31 9 (.slice Ab mb cb)).run Try.prog wb.drew = .ok (encStr (b.take (b.length / 2))) wb.drew := str_at cb hmb.out.symm (hob.drew).rd
          have shd : (convert 31 9 (.slice B (n2 / 2) c2)).run Try.prog wb.drew = .ok (encStr (b.take (b.length / 2))) wb.drew := str_at c2 hmbo (by rw [List.map_take]; exact ((hr2.gr hGb).take _).drew)
          obtain ⟨q1, q2, q3⟩ := half_bounds n2 c2 hlc2
          obtain ⟨w1, w2, w3⟩ := half_wraps n2 h101
          generalize b.take (b.length / 2) = bh at *
          refine Vc.wp_region_facts ⟨fun W W' => W = W', fun _ W W' => W = W', fun _ W => W = wb.drew, []⟩ (by kernel_rfl) (by kernel_rfl) (fun _ _ _ h h' => h ▸ h') rfl ?_
          clear sb sa s2
          repeat
            refine Vc.Walk.pure (v := ?_) (fun _ => rfl) rfl (by first | exact Vc.GuardYes.no rfl | exact Vc.GuardYes.yes rfl rfl) rfl rfl ?_ ?_
            rotate_left
            · intro _ W hI
              (obtain rfl := hI.g; clear hI)
              go_simp
              exact rfl
          rintro V rfl
          simp only [List.reverse_cons, List.reverse_nil, List.nil_append, List.cons_append, Vc.finish, Act.put, List.setIfInBounds_toArray, List.set_cons_zero, List.set_cons_succ]
          go_wp2_with fail
          go_ret
          exact ⟨rfl, hGb.trans' (Gr.draw _)⟩
        · rw [hk] at HWk
          rw [hq] at HWq
          have hrd : ((h5 a b).crash [0, 1, 2]).read [97] = (b.take (b.length / 2), true, 0) := by rfl
          go_enter Try.func8, Try.ntmps8
          go_wp2_with (first
            | (go_at_call 10; (with_reducible refine hK.out.mono ?_); rintro e w1 ⟨rfl, hg1⟩; clear hK)
            | (go_at_call 12; (with_reducible refine (HN1.out _).mono ?_); rintro e w2 ⟨p, X, rfl, ha2, hg2, hx⟩
               have hS := Lib.hid (Sv.new ha2 (hg1.trans' hg2) (fun i hi => Nat.le_trans hg1.size (hx i hi)))
               have HA1 := Lib.hid (write_any hS.out.at_ ⟨by decide, by decide⟩ [97] (by decide) A n c a hn (hr.gr hS.out.gr) (by omega))
               rw [h1_eq a ha] at HA1
               clear HN1 ha2 hx)
            | (go_at_call 13; (with_reducible refine HA1.out.mono ?_); rintro e w3 ⟨rfl, X3, ha3, hm3⟩
               have hS3 := Lib.hid (hS.out.step ha3 hm3)
               have HF := Lib.hid (flush_any hS3.out.at_ (sm_h1 a))
               rw [h2_eq] at HF
               clear HA1 ha3 hm3 hS)
            | (go_at_call 19; (with_reducible refine HF.out.mono ?_); rintro e w4 ⟨rfl, X4, ha4, hm4⟩
               have hS4 := Lib.hid (hS3.out.step ha4 hm4)
               have HA2 := Lib.hid (write_any hS4.out.at_ (sm_h2 a) [97] (by decide) B n2 c2 b hn2 (hr2.gr hS4.out.gr) (by omega))
               rw [h3_eq a b hb] at HA2
               clear HF ha4 hm4 hS3)
            | (go_at_call 13; (with_reducible refine HA2.out.mono ?_); rintro e w5 ⟨rfl, X5, ha5, hm5⟩
               have hS5 := Lib.hid (hS4.out.step ha5 hm5)
               have HRm := Lib.hid (remove_any hS5.out.at_ (sm_h3 a b) [97] (by decide))
               rw [h4_eq] at HRm
               clear HA2 ha5 hm5 hS4)
            | (go_at_call 18; (with_reducible refine HRm.out.mono ?_); rintro e w6 ⟨rfl, X6, ha6, hm6⟩
               have hS6 := Lib.hid (hS5.out.step ha6 hm6)
               have HA3 := Lib.hid (write_any hS6.out.at_ (sm_h4 a b) [97] (by decide) B n2 c2 b hn2 (hr2.gr hS6.out.gr) (by omega))
               rw [h5_eq a b hb] at HA3
               clear HRm ha6 hm6 hS5)
            | (go_at_call 13; (with_reducible refine HA3.out.mono ?_); rintro e w7 ⟨rfl, X7, ha7, hm7⟩
               have hS7 := Lib.hid (hS6.out.step ha7 hm7)
               clear HA3 ha7 hm7 hS6)
            | (go_at_call 11; (with_reducible refine (HWk.out _).mono ?_); rintro e w8 ⟨rfl, rfl⟩; clear HWk)
            | (go_at_call 11; (with_reducible refine (HWq.out _).mono ?_); rintro e w9 ⟨rfl, rfl⟩)
            | (go_at_call 20
               obtain ⟨hl1, hl2, hgl⟩ := keeps w7 1 2
               have hnx : ∀ ad, (some ⟨w7.heap.size + 1, 0, none⟩ : Option Addr) = some ad → ¬ X7 ad.block := fun ad e hx => by
                 injection e with e
                 have h3 := hS7.out.at_.lt _ hx
                 rw [← e] at h3
                 simp only at h3
                 omega
               (with_reducible refine (crash_any (hS7.out.more hgl).at_ (sm_h5 a b) (some ⟨w7.heap.size + 1, 0, none⟩) 3 3 [0, 1, 2] (Lib.hid rfl) hl2 hnx (by omega)).mono ?_)
               rintro e wa ⟨rfl, Xa, haa, hma⟩
               have hSa := Lib.hid ((hS7.out.more hgl).step haa hma)
               have HR := Lib.hid (read_any hSa.out.at_ [97] (by decide))
               rw [hrd] at HR
               clear haa hma hS7 hl1 hl2 hgl hnx)
            | (go_at_call 16; (with_reducible refine HR.out.mono ?_); rintro e wb ⟨Ab, mb, cb, rfl, hmb, hob, hgb⟩
               replace hmb := Lib.hid hmb
               have hGb := hSa.out.gr.trans' hgb
               have sb := str_at cb hmb.out.symm hob.rd
               have sa := str_at c hn.out (hr.gr hGb)
               have s2 := str_at c2 hn2.out (hr2.gr hGb)
               clear HR hSa))
          have hmbo : (b.take (b.length / 2)).length = n2 / 2 := by rw [List.length_take]; have := hn2.out; omega
          have sbd : (convert 31 9 (.slice Ab mb cb)).run Try.prog wb.drew = .ok (encStr (b.take (b.length / 2))) wb.drew := str_at cb hmb.out.symm (hob.drew).rd
          have shd : (convert 31 9 (.slice B (n2 / 2) c2)).run Try.prog wb.drew = .ok (encStr (b.take (b.length / 2))) wb.drew := str_at c2 hmbo (by rw [List.map_take]; exact ((hr2.gr hGb).take _).drew)
          obtain ⟨q1, q2, q3⟩ := half_bounds n2 c2 hlc2
          obtain ⟨w1, w2, w3⟩ := half_wraps n2 h101
          generalize b.take (b.length / 2) = bh at *
          refine Vc.wp_region_facts ⟨fun W W' => W = W', fun _ W W' => W = W', fun _ W => W = wb.drew, []⟩ (by kernel_rfl) (by kernel_rfl) (fun _ _ _ h h' => h ▸ h') rfl ?_
          clear sb sa s2
          repeat
            refine Vc.Walk.pure (v := ?_) (fun _ => rfl) rfl (by first | exact Vc.GuardYes.no rfl | exact Vc.GuardYes.yes rfl rfl) rfl rfl ?_ ?_
            rotate_left
            · intro _ W hI
              (obtain rfl := hI.g; clear hI)
              go_simp
              exact rfl
          rintro V rfl
          simp only [List.reverse_cons, List.reverse_nil, List.nil_append, List.cons_append, Vc.finish, Act.put, List.setIfInBounds_toArray, List.set_cons_zero, List.set_cons_succ]
          go_wp2_with fail
          go_ret
          exact ⟨rfl, hGb.trans' (Gr.draw _)⟩
        · rw [hk] at HWk
          rw [hq] at HWq
          have hrd : ((h5 a b).crash [0, 2, 2]).read [97] = (b.take (b.length / 2), true, 0) := by rfl
          go_enter Try.func8, Try.ntmps8
          go_wp2_with (first
            | (go_at_call 10; (with_reducible refine hK.out.mono ?_); rintro e w1 ⟨rfl, hg1⟩; clear hK)
            | (go_at_call 12; (with_reducible refine (HN1.out _).mono ?_); rintro e w2 ⟨p, X, rfl, ha2, hg2, hx⟩
               have hS := Lib.hid (Sv.new ha2 (hg1.trans' hg2) (fun i hi => Nat.le_trans hg1.size (hx i hi)))
               have HA1 := Lib.hid (write_any hS.out.at_ ⟨by decide, by decide⟩ [97] (by decide) A n c a hn (hr.gr hS.out.gr) (by omega))
               rw [h1_eq a ha] at HA1
               clear HN1 ha2 hx)
            | (go_at_call 13; (with_reducible refine HA1.out.mono ?_); rintro e w3 ⟨rfl, X3, ha3, hm3⟩
               have hS3 := Lib.hid (hS.out.step ha3 hm3)
               have HF := Lib.hid (flush_any hS3.out.at_ (sm_h1 a))
               rw [h2_eq] at HF
               clear HA1 ha3 hm3 hS)
            | (go_at_call 19; (with_reducible refine HF.out.mono ?_); rintro e w4 ⟨rfl, X4, ha4, hm4⟩
               have hS4 := Lib.hid (hS3.out.step ha4 hm4)
               have HA2 := Lib.hid (write_any hS4.out.at_ (sm_h2 a) [97] (by decide) B n2 c2 b hn2 (hr2.gr hS4.out.gr) (by omega))
               rw [h3_eq a b hb] at HA2
               clear HF ha4 hm4 hS3)
            | (go_at_call 13; (with_reducible refine HA2.out.mono ?_); rintro e w5 ⟨rfl, X5, ha5, hm5⟩
               have hS5 := Lib.hid (hS4.out.step ha5 hm5)
               have HRm := Lib.hid (remove_any hS5.out.at_ (sm_h3 a b) [97] (by decide))
               rw [h4_eq] at HRm
               clear HA2 ha5 hm5 hS4)
            | (go_at_call 18; (with_reducible refine HRm.out.mono ?_); rintro e w6 ⟨rfl, X6, ha6, hm6⟩
               have hS6 := Lib.hid (hS5.out.step ha6 hm6)
               have HA3 := Lib.hid (write_any hS6.out.at_ (sm_h4 a b) [97] (by decide) B n2 c2 b hn2 (hr2.gr hS6.out.gr) (by omega))
               rw [h5_eq a b hb] at HA3
               clear HRm ha6 hm6 hS5)
            | (go_at_call 13; (with_reducible refine HA3.out.mono ?_); rintro e w7 ⟨rfl, X7, ha7, hm7⟩
               have hS7 := Lib.hid (hS6.out.step ha7 hm7)
               clear HA3 ha7 hm7 hS6)
            | (go_at_call 11; (with_reducible refine (HWk.out _).mono ?_); rintro e w8 ⟨rfl, rfl⟩; clear HWk)
            | (go_at_call 11; (with_reducible refine (HWq.out _).mono ?_); rintro e w9 ⟨rfl, rfl⟩)
            | (go_at_call 20
               obtain ⟨hl1, hl2, hgl⟩ := keeps w7 2 2
               have hnx : ∀ ad, (some ⟨w7.heap.size + 1, 0, none⟩ : Option Addr) = some ad → ¬ X7 ad.block := fun ad e hx => by
                 injection e with e
                 have h3 := hS7.out.at_.lt _ hx
                 rw [← e] at h3
                 simp only at h3
                 omega
               (with_reducible refine (crash_any (hS7.out.more hgl).at_ (sm_h5 a b) (some ⟨w7.heap.size + 1, 0, none⟩) 3 3 [0, 2, 2] (Lib.hid rfl) hl2 hnx (by omega)).mono ?_)
               rintro e wa ⟨rfl, Xa, haa, hma⟩
               have hSa := Lib.hid ((hS7.out.more hgl).step haa hma)
               have HR := Lib.hid (read_any hSa.out.at_ [97] (by decide))
               rw [hrd] at HR
               clear haa hma hS7 hl1 hl2 hgl hnx)
            | (go_at_call 16; (with_reducible refine HR.out.mono ?_); rintro e wb ⟨Ab, mb, cb, rfl, hmb, hob, hgb⟩
               replace hmb := Lib.hid hmb
               have hGb := hSa.out.gr.trans' hgb
               have sb := str_at cb hmb.out.symm hob.rd
               have sa := str_at c hn.out (hr.gr hGb)
               have s2 := str_at c2 hn2.out (hr2.gr hGb)
               clear HR hSa))
          have hmbo : (b.take (b.length / 2)).length = n2 / 2 := by rw [List.length_take]; have := hn2.out; omega
          have sbd : (convert 31 9 (.slice Ab mb cb)).run Try.prog wb.drew = .ok (encStr (b.take (b.length / 2))) wb.drew := str_at cb hmb.out.symm (hob.drew).rd
          have shd : (convert 31 9 (.slice B (n2 / 2) c2)).run Try.prog wb.drew = .ok (encStr (b.take (b.length / 2))) wb.drew := str_at c2 hmbo (by rw [List.map_take]; exact ((hr2.gr hGb).take _).drew)
          obtain ⟨q1, q2, q3⟩ := half_bounds n2 c2 hlc2
          obtain ⟨w1, w2, w3⟩ := half_wraps n2 h101
          generalize b.take (b.length / 2) = bh at *
          refine Vc.wp_region_facts ⟨fun W W' => W = W', fun _ W W' => W = W', fun _ W => W = wb.drew, []⟩ (by kernel_rfl) (by kernel_rfl) (fun _ _ _ h h' => h ▸ h') rfl ?_
          clear sb sa s2
          repeat
            refine Vc.Walk.pure (v := ?_) (fun _ => rfl) rfl (by first | exact Vc.GuardYes.no rfl | exact Vc.GuardYes.yes rfl rfl) rfl rfl ?_ ?_
            rotate_left
            · intro _ W hI
              (obtain rfl := hI.g; clear hI)
              go_simp
              exact rfl
          rintro V rfl
          simp only [List.reverse_cons, List.reverse_nil, List.nil_append, List.cons_append, Vc.finish, Act.put, List.setIfInBounds_toArray, List.set_cons_zero, List.set_cons_succ]
          go_wp2_with fail
          go_ret
          exact ⟨rfl, hGb.trans' (Gr.draw _)⟩
        · rw [hk] at HWk
          rw [hq] at HWq
          have hrd : ((h5 a b).crash [0, 5, 2]).read [97] = (b.take (b.length / 2), true, 0) := by rfl
          go_enter Try.func8, Try.ntmps8
          go_wp2_with (first
            | (go_at_call 10; (with_reducible refine hK.out.mono ?_); rintro e w1 ⟨rfl, hg1⟩; clear hK)
            | (go_at_call 12; (with_reducible refine (HN1.out _).mono ?_); rintro e w2 ⟨p, X, rfl, ha2, hg2, hx⟩
               have hS := Lib.hid (Sv.new ha2 (hg1.trans' hg2) (fun i hi => Nat.le_trans hg1.size (hx i hi)))
               have HA1 := Lib.hid (write_any hS.out.at_ ⟨by decide, by decide⟩ [97] (by decide) A n c a hn (hr.gr hS.out.gr) (by omega))
               rw [h1_eq a ha] at HA1
               clear HN1 ha2 hx)
            | (go_at_call 13; (with_reducible refine HA1.out.mono ?_); rintro e w3 ⟨rfl, X3, ha3, hm3⟩
               have hS3 := Lib.hid (hS.out.step ha3 hm3)
               have HF := Lib.hid (flush_any hS3.out.at_ (sm_h1 a))
               rw [h2_eq] at HF
               clear HA1 ha3 hm3 hS)
            | (go_at_call 19; (with_reducible refine HF.out.mono ?_); rintro e w4 ⟨rfl, X4, ha4, hm4⟩
               have hS4 := Lib.hid (hS3.out.step ha4 hm4)
               have HA2 := Lib.hid (write_any hS4.out.at_ (sm_h2 a) [97] (by decide) B n2 c2 b hn2 (hr2.gr hS4.out.gr) (by omega))
               rw [h3_eq a b hb] at HA2
               clear HF ha4 hm4 hS3)
            | (go_at_call 13; (with_reducible refine HA2.out.mono ?_); rintro e w5 ⟨rfl, X5, ha5, hm5⟩
               have hS5 := Lib.hid (hS4.out.step ha5 hm5)
               have HRm := Lib.hid (remove_any hS5.out.at_ (sm_h3 a b) [97] (by decide))
               rw [h4_eq] at HRm
               clear HA2 ha5 hm5 hS4)
            | (go_at_call 18; (with_reducible refine HRm.out.mono ?_); rintro e w6 ⟨rfl, X6, ha6, hm6⟩
               have hS6 := Lib.hid (hS5.out.step ha6 hm6)
               have HA3 := Lib.hid (write_any hS6.out.at_ (sm_h4 a b) [97] (by decide) B n2 c2 b hn2 (hr2.gr hS6.out.gr) (by omega))
               rw [h5_eq a b hb] at HA3
               clear HRm ha6 hm6 hS5)
            | (go_at_call 13; (with_reducible refine HA3.out.mono ?_); rintro e w7 ⟨rfl, X7, ha7, hm7⟩
               have hS7 := Lib.hid (hS6.out.step ha7 hm7)
               clear HA3 ha7 hm7 hS6)
            | (go_at_call 11; (with_reducible refine (HWk.out _).mono ?_); rintro e w8 ⟨rfl, rfl⟩; clear HWk)
            | (go_at_call 11; (with_reducible refine (HWq.out _).mono ?_); rintro e w9 ⟨rfl, rfl⟩)
            | (go_at_call 20
               obtain ⟨hl1, hl2, hgl⟩ := keeps w7 5 2
               have hnx : ∀ ad, (some ⟨w7.heap.size + 1, 0, none⟩ : Option Addr) = some ad → ¬ X7 ad.block := fun ad e hx => by
                 injection e with e
                 have h3 := hS7.out.at_.lt _ hx
                 rw [← e] at h3
                 simp only at h3
                 omega
               (with_reducible refine (crash_any (hS7.out.more hgl).at_ (sm_h5 a b) (some ⟨w7.heap.size + 1, 0, none⟩) 3 3 [0, 5, 2] (Lib.hid rfl) hl2 hnx (by omega)).mono ?_)
               rintro e wa ⟨rfl, Xa, haa, hma⟩
               have hSa := Lib.hid ((hS7.out.more hgl).step haa hma)
               have HR := Lib.hid (read_any hSa.out.at_ [97] (by decide))
               rw [hrd] at HR
               clear haa hma hS7 hl1 hl2 hgl hnx)
            | (go_at_call 16; (with_reducible refine HR.out.mono ?_); rintro e wb ⟨Ab, mb, cb, rfl, hmb, hob, hgb⟩
               replace hmb := Lib.hid hmb
               have hGb := hSa.out.gr.trans' hgb
               have sb := str_at cb hmb.out.symm hob.rd
               have sa := str_at c hn.out (hr.gr hGb)
               have s2 := str_at c2 hn2.out (hr2.gr hGb)
               clear HR hSa))
          have hmbo : (b.take (b.length / 2)).length = n2 / 2 := by rw [List.length_take]; have := hn2.out; omega
          have sbd : (convert 31 9 (.slice Ab mb cb)).run Try.prog wb.drew = .ok (encStr (b.take (b.length / 2))) wb.drew := str_at cb hmb.out.symm (hob.drew).rd
          have shd : (convert 31 9 (.slice B (n2 / 2) c2)).run Try.prog wb.drew = .ok (encStr (b.take (b.length / 2))) wb.drew := str_at c2 hmbo (by rw [List.map_take]; exact ((hr2.gr hGb).take _).drew)
          obtain ⟨q1, q2, q3⟩ := half_bounds n2 c2 hlc2
          obtain ⟨w1, w2, w3⟩ := half_wraps n2 h101
          generalize b.take (b.length / 2) = bh at *
          refine Vc.wp_region_facts ⟨fun W W' => W = W', fun _ W W' => W = W', fun _ W => W = wb.drew, []⟩ (by kernel_rfl) (by kernel_rfl) (fun _ _ _ h h' => h ▸ h') rfl ?_
          clear sb sa s2
          repeat
            refine Vc.Walk.pure (v := ?_) (fun _ => rfl) rfl (by first | exact Vc.GuardYes.no rfl | exact Vc.GuardYes.yes rfl rfl) rfl rfl ?_ ?_
            rotate_left
            · intro _ W hI
              (obtain rfl := hI.g; clear hI)
              go_simp
              exact rfl
          rintro V rfl
          simp only [List.reverse_cons, List.reverse_nil, List.nil_append, List.cons_append, Vc.finish, Act.put, List.setIfInBounds_toArray, List.set_cons_zero, List.set_cons_succ]
          go_wp2_with fail
          go_ret
          exact ⟨rfl, hGb.trans' (Gr.draw _)⟩
      · rcases hqq with hq | hq | hq | hq
        · rw [hk] at HWk
          rw [hq] at HWq
          have hrd : ((h5 a b).crash [0, 0, 3]).read [97] = (a, true, 0) := by rfl
          go_enter Try.func8, Try.ntmps8
          go_wp2_with (first
            | (go_at_call 10; (with_reducible refine hK.out.mono ?_); rintro e w1 ⟨rfl, hg1⟩; clear hK)
            | (go_at_call 12; (with_reducible refine (HN1.out _).mono ?_); rintro e w2 ⟨p, X, rfl, ha2, hg2, hx⟩
               have hS := Lib.hid (Sv.new ha2 (hg1.trans' hg2) (fun i hi => Nat.le_trans hg1.size (hx i hi)))
               have HA1 := Lib.hid (write_any hS.out.at_ ⟨by decide, by decide⟩ [97] (by decide) A n c a hn (hr.gr hS.out.gr) (by omega))
               rw [h1_eq a ha] at HA1
               clear HN1 ha2 hx)
            | (go_at_call 13; (with_reducible refine HA1.out.mono ?_); rintro e w3 ⟨rfl, X3, ha3, hm3⟩
               have hS3 := Lib.hid (hS.out.step ha3 hm3)
               have HF := Lib.hid (flush_any hS3.out.at_ (sm_h1 a))
               rw [h2_eq] at HF
               clear HA1 ha3 hm3 hS)
            | (go_at_call 19; (with_reducible refine HF.out.mono ?_); rintro e w4 ⟨rfl, X4, ha4, hm4⟩
               have hS4 := Lib.hid (hS3.out.step ha4 hm4)
               have HA2 := Lib.hid (write_any hS4.out.at_ (sm_h2 a) [97] (by decide) B n2 c2 b hn2 (hr2.gr hS4.out.gr) (by omega))
               rw [h3_eq a b hb] at HA2
               clear HF ha4 hm4 hS3)
            | (go_at_call 13; (with_reducible refine HA2.out.mono ?_); rintro e w5 ⟨rfl, X5, ha5, hm5⟩
               have hS5 := Lib.hid (hS4.out.step ha5 hm5)
               have HRm := Lib.hid (remove_any hS5.out.at_ (sm_h3 a b) [97] (by decide))
               rw [h4_eq] at HRm
               clear HA2 ha5 hm5 hS4)
            | (go_at_call 18; (with_reducible refine HRm.out.mono ?_); rintro e w6 ⟨rfl, X6, ha6, hm6⟩
               have hS6 := Lib.hid (hS5.out.step ha6 hm6)
               have HA3 := Lib.hid (write_any hS6.out.at_ (sm_h4 a b) [97] (by decide) B n2 c2 b hn2 (hr2.gr hS6.out.gr) (by omega))
               rw [h5_eq a b hb] at HA3
               clear HRm ha6 hm6 hS5)
            | (go_at_call 13; (with_reducible refine HA3.out.mono ?_); rintro e w7 ⟨rfl, X7, ha7, hm7⟩
               have hS7 := Lib.hid (hS6.out.step ha7 hm7)
               clear HA3 ha7 hm7 hS6)
            | (go_at_call 11; (with_reducible refine (HWk.out _).mono ?_); rintro e w8 ⟨rfl, rfl⟩; clear HWk)
            | (go_at_call 11; (with_reducible refine (HWq.out _).mono ?_); rintro e w9 ⟨rfl, rfl⟩)
            | (go_at_call 20
               obtain ⟨hl1, hl2, hgl⟩ := keeps w7 0 3
               have hnx : ∀ ad, (some ⟨w7.heap.size + 1, 0, none⟩ : Option Addr) = some ad → ¬ X7 ad.block := fun ad e hx => by
                 injection e with e
                 have h3 := hS7.out.at_.lt _ hx
                 rw [← e] at h3
                 simp only at h3
                 omega
               (with_reducible refine (crash_any (hS7.out.more hgl).at_ (sm_h5 a b) (some ⟨w7.heap.size + 1, 0, none⟩) 3 3 [0, 0, 3] (Lib.hid rfl) hl2 hnx (by omega)).mono ?_)
               rintro e wa ⟨rfl, Xa, haa, hma⟩
               have hSa := Lib.hid ((hS7.out.more hgl).step haa hma)
               have HR := Lib.hid (read_any hSa.out.at_ [97] (by decide))
               rw [hrd] at HR
               clear haa hma hS7 hl1 hl2 hgl hnx)
            | (go_at_call 16; (with_reducible refine HR.out.mono ?_); rintro e wb ⟨Ab, mb, cb, rfl, hmb, hob, hgb⟩
               replace hmb := Lib.hid hmb
               have hGb := hSa.out.gr.trans' hgb
               have sb := str_at cb hmb.out.symm hob.rd
               have sa := str_at c hn.out (hr.gr hGb)
               have s2 := str_at c2 hn2.out (hr2.gr hGb)
               clear HR hSa))
          go_ret
          exact ⟨rfl, hGb⟩
        · rw [hk] at HWk
          rw [hq] at HWq
          have hrd : ((h5 a b).crash [0, 1, 3]).read [97] = ([], false, 0) := by rfl
          go_enter Try.func8, Try.ntmps8
          go_wp2_with (first
            | (go_at_call 10; (with_reducible refine hK.out.mono ?_); rintro e w1 ⟨rfl, hg1⟩; clear hK)
            | (go_at_call 12; (with_reducible refine (HN1.out _).mono ?_); rintro e w2 ⟨p, X, rfl, ha2, hg2, hx⟩
               have hS := Lib.hid (Sv.new ha2 (hg1.trans' hg2) (fun i hi => Nat.le_trans hg1.size (hx i hi)))
               have HA1 := Lib.hid (write_any hS.out.at_ ⟨by decide, by decide⟩ [97] (by decide) A n c a hn (hr.gr hS.out.gr) (by omega))
               rw [h1_eq a ha] at HA1
               clear HN1 ha2 hx)
            | (go_at_call 13; (with_reducible refine HA1.out.mono ?_); rintro e w3 ⟨rfl, X3, ha3, hm3⟩
               have hS3 := Lib.hid (hS.out.step ha3 hm3)
               have HF := Lib.hid (flush_any hS3.out.at_ (sm_h1 a))
               rw [h2_eq] at HF
               clear HA1 ha3 hm3 hS)
            | (go_at_call 19; (with_reducible refine HF.out.mono ?_); rintro e w4 ⟨rfl, X4, ha4, hm4⟩
               have hS4 := Lib.hid (hS3.out.step ha4 hm4)
               have HA2 := Lib.hid (write_any hS4.out.at_ (sm_h2 a) [97] (by decide) B n2 c2 b hn2 (hr2.gr hS4.out.gr) (by omega))
               rw [h3_eq a b hb] at HA2
               clear HF ha4 hm4 hS3)
            | (go_at_call 13; (with_reducible refine HA2.out.mono ?_); rintro e w5 ⟨rfl, X5, ha5, hm5⟩
               have hS5 := Lib.hid (hS4.out.step ha5 hm5)
               have HRm := Lib.hid (remove_any hS5.out.at_ (sm_h3 a b) [97] (by decide))
               rw [h4_eq] at HRm
               clear HA2 ha5 hm5 hS4)
            | (go_at_call 18; (with_reducible refine HRm.out.mono ?_); rintro e w6 ⟨rfl, X6, ha6, hm6⟩
               have hS6 := Lib.hid (hS5.out.step ha6 hm6)
               have HA3 := Lib.hid (write_any hS6.out.at_ (sm_h4 a b) [97] (by decide) B n2 c2 b hn2 (hr2.gr hS6.out.gr) (by omega))
               rw [h5_eq a b hb] at HA3
               clear HRm ha6 hm6 hS5)
            | (go_at_call 13; (with_reducible refine HA3.out.mono ?_); rintro e w7 ⟨rfl, X7, ha7, hm7⟩
               have hS7 := Lib.hid (hS6.out.step ha7 hm7)
               clear HA3 ha7 hm7 hS6)
            | (go_at_call 11; (with_reducible refine (HWk.out _).mono ?_); rintro e w8 ⟨rfl, rfl⟩; clear HWk)
            | (go_at_call 11; (with_reducible refine (HWq.out _).mono ?_); rintro e w9 ⟨rfl, rfl⟩)
            | (go_at_call 20
               obtain ⟨hl1, hl2, hgl⟩ := keeps w7 1 3
               have hnx : ∀ ad, (some ⟨w7.heap.size + 1, 0, none⟩ : Option Addr) = some ad → ¬ X7 ad.block := fun ad e hx => by
                 injection e with e
                 have h3 := hS7.out.at_.lt _ hx
                 rw [← e] at h3
                 simp only at h3
                 omega
               (with_reducible refine (crash_any (hS7.out.more hgl).at_ (sm_h5 a b) (some ⟨w7.heap.size + 1, 0, none⟩) 3 3 [0, 1, 3] (Lib.hid rfl) hl2 hnx (by omega)).mono ?_)
               rintro e wa ⟨rfl, Xa, haa, hma⟩
               have hSa := Lib.hid ((hS7.out.more hgl).step haa hma)
               have HR := Lib.hid (read_any hSa.out.at_ [97] (by decide))
               rw [hrd] at HR
               clear haa hma hS7 hl1 hl2 hgl hnx)
            | (go_at_call 16; (with_reducible refine HR.out.mono ?_); rintro e wb ⟨Ab, mb, cb, rfl, hmb, hob, hgb⟩
               replace hmb := Lib.hid hmb
               have hGb := hSa.out.gr.trans' hgb
               have sb := str_at cb hmb.out.symm hob.rd
               have sa := str_at c hn.out (hr.gr hGb)
               have s2 := str_at c2 hn2.out (hr2.gr hGb)
               clear HR hSa))
          go_ret
          exact ⟨rfl, hGb⟩
        · rw [hk] at HWk
          rw [hq] at HWq
          have hrd : ((h5 a b).crash [0, 2, 3]).read [97] = ([], false, 0) := by rfl
          go_enter Try.func8, Try.ntmps8
          go_wp2_with (first
            | (go_at_call 10; (with_reducible refine hK.out.mono ?_); rintro e w1 ⟨rfl, hg1⟩; clear hK)
            | (go_at_call 12; (with_reducible refine (HN1.out _).mono ?_); rintro e w2 ⟨p, X, rfl, ha2, hg2, hx⟩
               have hS := Lib.hid (Sv.new ha2 (hg1.trans' hg2) (fun i hi => Nat.le_trans hg1.size (hx i hi)))
               have HA1 := Lib.hid (write_any hS.out.at_ ⟨by decide, by decide⟩ [97] (by decide) A n c a hn (hr.gr hS.out.gr) (by omega))
               rw [h1_eq a ha] at HA1
               clear HN1 ha2 hx)
            | (go_at_call 13; (with_reducible refine HA1.out.mono ?_); rintro e w3 ⟨rfl, X3, ha3, hm3⟩
               have hS3 := Lib.hid (hS.out.step ha3 hm3)
               have HF := Lib.hid (flush_any hS3.out.at_ (sm_h1 a))
               rw [h2_eq] at HF
               clear HA1 ha3 hm3 hS)
            | (go_at_call 19; (with_reducible refine HF.out.mono ?_); rintro e w4 ⟨rfl, X4, ha4, hm4⟩
               have hS4 := Lib.hid (hS3.out.step ha4 hm4)
               have HA2 := Lib.hid (write_any hS4.out.at_ (sm_h2 a) [97] (by decide) B n2 c2 b hn2 (hr2.gr hS4.out.gr) (by omega))
               rw [h3_eq a b hb] at HA2
               clear HF ha4 hm4 hS3)
            | (go_at_call 13; (with_reducible refine HA2.out.mono ?_); rintro e w5 ⟨rfl, X5, ha5, hm5⟩
               have hS5 := Lib.hid (hS4.out.step ha5 hm5)
               have HRm := Lib.hid (remove_any hS5.out.at_ (sm_h3 a b) [97] (by decide))
               rw [h4_eq] at HRm
               clear HA2 ha5 hm5 hS4)
            | (go_at_call 18; (with_reducible refine HRm.out.mono ?_); rintro e w6 ⟨rfl, X6, ha6, hm6⟩
               have hS6 := Lib.hid (hS5.out.step ha6 hm6)
               have HA3 := Lib.hid (write_any hS6.out.at_ (sm_h4 a b) [97] (by decide) B n2 c2 b hn2 (hr2.gr hS6.out.gr) (by omega))
               rw [h5_eq a b hb] at HA3
               clear HRm ha6 hm6 hS5)
            | (go_at_call 13; (with_reducible refine HA3.out.mono ?_); rintro e w7 ⟨rfl, X7, ha7, hm7⟩
               have hS7 := Lib.hid (hS6.out.step ha7 hm7)
               clear HA3 ha7 hm7 hS6)
            | (go_at_call 11; (with_reducible refine (HWk.out _).mono ?_); rintro e w8 ⟨rfl, rfl⟩; clear HWk)
            | (go_at_call 11; (with_reducible refine (HWq.out _).mono ?_); rintro e w9 ⟨rfl, rfl⟩)
            | (go_at_call 20
               obtain ⟨hl1, hl2, hgl⟩ := keeps w7 2 3
               have hnx : ∀ ad, (some ⟨w7.heap.size + 1, 0, none⟩ : Option Addr) = some ad → ¬ X7 ad.block := fun ad e hx => by
                 injection e with e
                 have h3 := hS7.out.at_.lt _ hx
                 rw [← e] at h3
                 simp only at h3
                 omega
               (with_reducible refine (crash_any (hS7.out.more hgl).at_ (sm_h5 a b) (some ⟨w7.heap.size + 1, 0, none⟩) 3 3 [0, 2, 3] (Lib.hid rfl) hl2 hnx (by omega)).mono ?_)
               rintro e wa ⟨rfl, Xa, haa, hma⟩
               have hSa := Lib.hid ((hS7.out.more hgl).step haa hma)
               have HR := Lib.hid (read_any hSa.out.at_ [97] (by decide))
               rw [hrd] at HR
               clear haa hma hS7 hl1 hl2 hgl hnx)
            | (go_at_call 16; (with_reducible refine HR.out.mono ?_); rintro e wb ⟨Ab, mb, cb, rfl, hmb, hob, hgb⟩
               replace hmb := Lib.hid hmb
               have hGb := hSa.out.gr.trans' hgb
               have sb := str_at cb hmb.out.symm hob.rd
               have sa := str_at c hn.out (hr.gr hGb)
               have s2 := str_at c2 hn2.out (hr2.gr hGb)
               clear HR hSa))
          go_ret
          exact ⟨rfl, hGb⟩
        · rw [hk] at HWk
          rw [hq] at HWq
          have hrd : ((h5 a b).crash [0, 5, 3]).read [97] = (a, true, 0) := by rfl
          go_enter Try.func8, Try.ntmps8
          go_wp2_with (first
            | (go_at_call 10; (with_reducible refine hK.out.mono ?_); rintro e w1 ⟨rfl, hg1⟩; clear hK)
            | (go_at_call 12; (with_reducible refine (HN1.out _).mono ?_); rintro e w2 ⟨p, X, rfl, ha2, hg2, hx⟩
               have hS := Lib.hid (Sv.new ha2 (hg1.trans' hg2) (fun i hi => Nat.le_trans hg1.size (hx i hi)))
               have HA1 := Lib.hid (write_any hS.out.at_ ⟨by decide, by decide⟩ [97] (by decide) A n c a hn (hr.gr hS.out.gr) (by omega))
               rw [h1_eq a ha] at HA1
               clear HN1 ha2 hx)
            | (go_at_call 13; (with_reducible refine HA1.out.mono ?_); rintro e w3 ⟨rfl, X3, ha3, hm3⟩
               have hS3 := Lib.hid (hS.out.step ha3 hm3)
               have HF := Lib.hid (flush_any hS3.out.at_ (sm_h1 a))
               rw [h2_eq] at HF
               clear HA1 ha3 hm3 hS)
            | (go_at_call 19; (with_reducible refine HF.out.mono ?_); rintro e w4 ⟨rfl, X4, ha4, hm4⟩
               have hS4 := Lib.hid (hS3.out.step ha4 hm4)
               have HA2 := Lib.hid (write_any hS4.out.at_ (sm_h2 a) [97] (by decide) B n2 c2 b hn2 (hr2.gr hS4.out.gr) (by omega))
               rw [h3_eq a b hb] at HA2
               clear HF ha4 hm4 hS3)
            | (go_at_call 13; (with_reducible refine HA2.out.mono ?_); rintro e w5 ⟨rfl, X5, ha5, hm5⟩
               have hS5 := Lib.hid (hS4.out.step ha5 hm5)
               have HRm := Lib.hid (remove_any hS5.out.at_ (sm_h3 a b) [97] (by decide))
               rw [h4_eq] at HRm
               clear HA2 ha5 hm5 hS4)
            | (go_at_call 18; (with_reducible refine HRm.out.mono ?_); rintro e w6 ⟨rfl, X6, ha6, hm6⟩
               have hS6 := Lib.hid (hS5.out.step ha6 hm6)
               have HA3 := Lib.hid (write_any hS6.out.at_ (sm_h4 a b) [97] (by decide) B n2 c2 b hn2 (hr2.gr hS6.out.gr) (by omega))
               rw [h5_eq a b hb] at HA3
               clear HRm ha6 hm6 hS5)
            | (go_at_call 13; (with_reducible refine HA3.out.mono ?_); rintro e w7 ⟨rfl, X7, ha7, hm7⟩
               have hS7 := Lib.hid (hS6.out.step ha7 hm7)
               clear HA3 ha7 hm7 hS6)
            | (go_at_call 11; (with_reducible refine (HWk.out _).mono ?_); rintro e w8 ⟨rfl, rfl⟩; clear HWk)
            | (go_at_call 11; (with_reducible refine (HWq.out _).mono ?_); rintro e w9 ⟨rfl, rfl⟩)
            | (go_at_call 20
               obtain ⟨hl1, hl2, hgl⟩ := keeps w7 5 3
               have hnx : ∀ ad, (some ⟨w7.heap.size + 1, 0, none⟩ : Option Addr) = some ad → ¬ X7 ad.block := fun ad e hx => by
                 injection e with e
                 have h3 := hS7.out.at_.lt _ hx
                 rw [← e] at h3
                 simp only at h3
                 omega
               (with_reducible refine (crash_any (hS7.out.more hgl).at_ (sm_h5 a b) (some ⟨w7.heap.size + 1, 0, none⟩) 3 3 [0, 5, 3] (Lib.hid rfl) hl2 hnx (by omega)).mono ?_)
               rintro e wa ⟨rfl, Xa, haa, hma⟩
               have hSa := Lib.hid ((hS7.out.more hgl).step haa hma)
               have HR := Lib.hid (read_any hSa.out.at_ [97] (by decide))
               rw [hrd] at HR
               clear haa hma hS7 hl1 hl2 hgl hnx)
            | (go_at_call 16; (with_reducible refine HR.out.mono ?_); rintro e wb ⟨Ab, mb, cb, rfl, hmb, hob, hgb⟩
               replace hmb := Lib.hid hmb
               have hGb := hSa.out.gr.trans' hgb
               have sb := str_at cb hmb.out.symm hob.rd
               have sa := str_at c hn.out (hr.gr hGb)
               have s2 := str_at c2 hn2.out (hr2.gr hGb)
               clear HR hSa))
          go_ret
          exact ⟨rfl, hGb⟩
end Go.Proofs.Ytopellbmmkflgaa
