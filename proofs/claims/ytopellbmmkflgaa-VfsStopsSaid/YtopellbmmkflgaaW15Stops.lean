/- VfsStops: the walk. -/
import Derived.Test.YtopellbmmkflgaaVfK
set_option linter.unusedVariables false
set_option linter.unusedSimpArgs false
namespace Go.Proofs.Ytopellbmmkflgaa
open Go.RowKit Go.Maps Go.Sort
structure SI (s : V) (n d : Nat) (is : Bool) : Prop where
  room : s.room = 100
  le : d ≤ n
  ops : s.ops = d
  dead : s.dead = decide (n ≤ d)
  stop : s.stop = n - d
  now : s.now = if is then [([97], [1])] else []
section
variable {s : V} {n d : Nat} {is : Bool} {b : Str}
theorem SI.new (n : Nat) (hn : 0 < n) (m : Int) (hm : m = (n : Int)) : SI ((V.new 100).stopAt m) n 0 false := ⟨rfl, Nat.zero_le _, rfl, by show false = _; simp; omega, by show m.toNat = _; omega, rfl⟩
theorem SI.deadT (h : SI s n d is) (hd : ¬ d < n) : s.dead = true := by rw [h.dead]; simp; omega
theorem SI.deadF (h : SI s n d is) (hd : d < n) : s.dead = false := by rw [h.dead]; simp; omega
theorem SI.step (h : SI s n d is) (hd : d < n) (l k : Files) (c : List Ch) (is' : Bool) (hl : l = if is' then [([97], [1])] else []) : SI (V.step { s with now := l, kept := k, since := c }) n (d + 1) is' := by
  refine ⟨h.room, hd, by show s.ops + 1 = _; rw [h.ops], ?_, by show s.stop - 1 = _; rw [h.stop]; omega, hl⟩
  show (if s.stop = 0 then s.dead else decide (s.stop = 1)) = _
  rw [h.stop, if_neg (by omega)]
  simp
  omega
theorem SI.stepDead (h : SI s n d is) (hd : d < n) : s.step.dead = decide (d + 1 = n) := by
  show (if s.stop = 0 then s.dead else decide (s.stop = 1)) = _
  rw [h.stop, if_neg (by omega)]
  simp
  omega
theorem SI.now_cases (h : SI s n d is) : (s.now = [] ∧ is = false) ∨ (s.now = [([97], [1])] ∧ is = true) := by
  have := h.now
  cases is
  · exact .inl ⟨this, rfl⟩
  · exact .inr ⟨this, rfl⟩
/-- Kind 0. -/
theorem SI.k0 (h : SI s n d is) (hd : d < n) : ∃ s', s.write [97] [1] = (s', deadNo (decide (d + 1 = n))) ∧ SI s' n (d + 1) true := by
  have hu : ¬ s.room < s.now.used - ((s.now.get [97]).getD []).length + ([1] : Str).length := by
    rw [h.room]
    rcases h.now_cases with ⟨e, _⟩ | ⟨e, _⟩ <;> rw [e] <;> decide
  have hp : s.now.put [97] [1] = [([97], [1])] := by
    rcases h.now_cases with ⟨e, _⟩ | ⟨e, _⟩ <;> rw [e] <;> rfl
  refine ⟨s.done ⟨[97], [1], false⟩, ?_, h.step hd _ _ _ true hp⟩
  unfold V.write
  rw [if_neg (by rw [h.deadF hd]; simp), if_neg (by simp), if_neg hu]
  have : (s.done ⟨[97], [1], false⟩).dead = s.step.dead := rfl
  rw [this, h.stepDead hd]
/-- Kind 1. -/
theorem SI.k1 (h : SI s n d is) (hd : d < n) : ∃ s', s.flush = (s', deadNo (decide (d + 1 = n))) ∧ SI s' n (d + 1) is := by
  have h1 := h.step hd s.now s.kept s.since is h.now
  have hsd := h.stepDead hd
  unfold V.flush
  rw [if_neg (by rw [h.deadF hd]; simp)]
  by_cases e : d + 1 = n
  · rw [decide_eq_true e] at hsd ⊢
    rw [if_pos hsd]
    exact ⟨_, rfl, h1⟩
  · rw [decide_eq_false e] at hsd ⊢
    rw [if_neg (by rw [hsd]; simp)]
    exact ⟨_, rfl, h.step hd s.now s.now [] is h.now⟩
/-- Kind 2. -/
theorem SI.k2 (h : SI s n d true) (hd : d < n) : ∃ s', s.remove [97] = (s', deadNo (decide (d + 1 = n))) ∧ SI s' n (d + 1) false := by
  have hn : s.now = [([97], [1])] := h.now
  refine ⟨s.done ⟨[97], [], true⟩, ?_, h.step hd _ _ _ false (by show s.now.del [97] = _; rw [hn]; rfl)⟩
  unfold V.remove
  rw [if_neg (by rw [h.deadF hd]; simp), if_pos (by rw [hn]; rfl)]
  have : (s.done ⟨[97], [], true⟩).dead = s.step.dead := rfl
  rw [this, h.stepDead hd]
theorem SI.k2n (h : SI s n d false) (hd : d < n) : s.remove [97] = (s, 2) := by
  have hn : s.now = [] := h.now
  unfold V.remove
  rw [if_neg (by rw [h.deadF hd]; simp), if_neg (by rw [hn]; decide)]
/-- Kind 3. -/
theorem SI.k3 (h : SI s n d is) (hd : d < n) (hb : b.length = 101) : s.write [98] b = (s, 14) := by
  have hu : s.room < s.now.used - ((s.now.get [98]).getD []).length + b.length := by
    rw [h.room, hb]
    omega
  unfold V.write
  rw [if_neg (by rw [h.deadF hd]; simp), if_neg (by simp), if_pos hu]
theorem dead_write (h : s.dead = true) (x b : Str) : s.write x b = (s, 15) := by unfold V.write; rw [if_pos h]
theorem dead_flush (h : s.dead = true) : s.flush = (s, 15) := by unfold V.flush; rw [if_pos h]
theorem dead_remove (h : s.dead = true) (x : Str) : s.remove x = (s, 15) := by unfold V.remove; rw [if_pos h]
end
theorem crash_flush (s : V) : (s.crash []).flush = ({ (s.crash []).step with kept := (s.crash []).now, since := [] }, 0) := by
  unfold V.flush
  rw [if_neg (by show ¬ (false = true); simp), if_neg (by show ¬ ((if (0 : Nat) = 0 then false else decide ((0 : Nat) = 1)) = true); simp)]
set_option maxRecDepth 20000 in
set_option maxHeartbeats 8000000 in
theorem vfsStops.walk (w : World) (r : Int) (r0 : -9223372036854775808 ≤ r) (r1 : r ≤ 9223372036854775807) (A : Option Addr) (n c : Nat) (ns : List Int) (hn : Hid (ns.length = n)) (hr : Rd w A (ns.map iv))
    (hns : ∀ x ∈ ns, -9223372036854775808 ≤ x ∧ x ≤ 9223372036854775807) (hlc : n ≤ c) (hcm : c ≤ maxLen) :
    Calls Try.prog 7 #[.int .i64 r, .slice A n c] w fun e w' => e = .returned (.bool true) ∧ Gr w w' := by
  have hnc := Nat.le_trans hlc hcm
  unfold maxLen at hnc
  have hK := Lib.hid (known_any w)
  have hW0 := Lib.hid (fun W => within1_any r 10 W r0 r1 (by decide) (by decide))
  have hR0 : 0 ≤ r % 10 := Int.emod_nonneg r (by decide)
  have hR1 : r % 10 < 10 := Int.emod_lt_of_pos r (by decide)
  obtain ⟨N, hN⟩ : ∃ N : Nat, r % 10 = (N : Int) := ⟨(r % 10).toNat, by omega⟩
  rw [hN] at hW0 hR0 hR1
  have hN10 : N < 10 := by omega
  clear hN hR0 hR1
  obtain ⟨i0, hi0, hz0, hz1, hz2⟩ := info_parts info_u8
  go_enter Try.func7, Try.ntmps7
  go_wp2_with (first
    | (go_at_call 10; (with_reducible refine hK.out.mono ?_); rintro e w1 ⟨rfl, hg1⟩; clear hK)
    | (go_at_call 11; (with_reducible refine (hW0.out _).mono ?_); rintro e w2 ⟨rfl, rfl⟩; clear hW0
       have hNw := Lib.hid (new_any 100 w1))
    | (go_at_call 12; (with_reducible refine hNw.out.mono ?_); rintro e w3 ⟨p, X, rfl, ha, hg3, hx⟩
       have hS := Lib.hid (Sv.new ha (hg1.trans' hg3) (fun i hi => Nat.le_trans hg1.size (hx i hi)))
       have hSt := Lib.hid (stop_any hS.out.at_ (1 + (N : Int)))
       clear hNw ha hx)
    | (go_at_call 22; (with_reducible refine hSt.out.mono ?_); rintro e w4 ⟨rfl, ha4, hm4⟩
       have hS4 := Lib.hid (hS.out.step ha4 hm4)
       clear hSt ha4 hm4 hS))
  obtain ⟨M, hM⟩ : ∃ M : Nat, 1 + (N : Int) = (M : Int) := ⟨N + 1, by omega⟩
  have hM1 : 0 < M := by omega
  have hM10 : M ≤ 10 := by omega
  have hI := Lib.hid (SI.new M hM1 _ hM)
  rw [hM]
  go_loopw [6, 7, 8] (fun dn b i wr => ∃ (j d : Nat) (is : Bool) (X : Nat → Prop) (s : V), j ≤ n ∧ j ≤ 30 ∧ dn = .int .i64 d ∧ b = .bool is ∧ i = .int .i64 j ∧ Hid (Sv w wr X p s) ∧ Hid (SI s M d is)) (fun _ _ i _ => n - (intOf i).toNat)
  case atStart => exact ⟨0, 0, false, X, _, by omega, by omega, rfl, rfl, rfl, hS4, hI⟩
  case round =>
    obtain ⟨j, d, is, X, s, hj, hj30, rfl, rfl, rfl, hS, hI⟩ := hrel
    by_cases hlt : j < n ∧ j < 30
    · obtain ⟨hlt, hlt30⟩ := hlt
      have hjl : j < ns.length := by have := hn.out; omega
      obtain ⟨ad, rfl, hc⟩ := (hr.gr hS.out.gr).at_ (k := j) (by simpa using hjl)
      simp only [List.getElem_map, iv] at hc
      have hb := hns ns[j] (List.getElem_mem hjl)
      generalize hx : ns[j] = x at *
      have hWa := Lib.hid (fun W => within1_any x 4 W hb.1 hb.2 (by decide) (by decide))
      have hk0 : 0 ≤ x % 4 := Int.emod_nonneg x (by decide)
      have hk1 : x % 4 < 4 := Int.emod_lt_of_pos x (by decide)
      have hsm : Sm s := ⟨by rw [hI.out.ops]; have := hI.out.le; omega, by rw [hI.out.stop]; omega⟩
      have hdl := hI.out.le
      have hg4 := Gr.alloc1 wr (.cells #[.int .u8 1] 5)
      have HA := Lib.hid (write_any (hS.out.more hg4).at_ hsm [97] (by decide) (some ⟨wr.heap.size, 0, none⟩) 1 1 [1] (Lib.hid rfl) (Rd.of_row' (t := 5) (Row.new wr 5 [.int .u8 1])) (by omega))
      have HF := Lib.hid (flush_any hS.out.at_ hsm)
      have HM := Lib.hid (remove_any hS.out.at_ hsm [97] (by decide))
      have HB := Lib.hid (fun (V0 : World) (hV : Gr wr V0) (g : Nat) (b : Str) (hb : b.length = 101) (hrd : Rd V0 (some ⟨g, 0, none⟩) (b.map bv)) => write_any (hS.out.more hV).at_ hsm [98] (by decide) (some ⟨g, 0, none⟩) 101 101 b (Lib.hid hb) hrd (by omega))
      have hkk : x % 4 = 0 ∨ x % 4 = 1 ∨ x % 4 = 2 ∨ x % 4 = 3 := by omega
      rcases hkk with hk | hk | hk | hk
      · rw [hk] at hWa
        clear HF HM HB
        by_cases hd : d < M
        · have hd' : (d : Int) < (M : Int) := by omega
          obtain ⟨s2, e2, hI2⟩ := hI.out.k0 hd
          rw [e2] at HA
          have hI2 := Lib.hid hI2
          clear e2
          by_cases hdm : d + 1 = M
          · rw [decide_eq_true hdm] at HA
            go_wp2_with (first
              | (go_at_call 11; (with_reducible refine (hWa.out _).mono ?_); rintro e V1 ⟨rfl, rfl⟩; clear hWa)
              | (go_at_call 13; (with_reducible refine HA.out.mono ?_); rintro e V2 ⟨rfl, X2, ha, hm⟩
                 have hS2 := Lib.hid ((hS.out.more hg4).step ha hm)
                 have HD := Lib.hid (dead_any hS2.out.at_)
                 have HO := Lib.hid (ops_any hS2.out.at_)
                 rw [hI2.out.dead] at HD
                 rw [hI2.out.ops] at HO
                 clear HA ha hm)
              | (go_at_call 21; (with_reducible refine HD.out.mono ?_); rintro e V3 ⟨rfl, rfl⟩; clear HD)
              | (go_at_call 23; (with_reducible refine HO.out.mono ?_); rintro e V4 ⟨rfl, rfl⟩; clear HO))
            go_roundw
            case rel => exact ⟨j + 1, d + 1, true, X2, s2, by omega, by omega, by simp, by simp, by simp, hS2, hI2⟩
            case measure => simp [intOf]; omega
          · rw [decide_eq_false hdm] at HA
            have hdm' : ((d : Int) + 1 == (M : Int)) = false := by simp; omega
            go_wp2_with (first
              | (go_at_call 11; (with_reducible refine (hWa.out _).mono ?_); rintro e V1 ⟨rfl, rfl⟩; clear hWa)
              | (go_at_call 13; (with_reducible refine HA.out.mono ?_); rintro e V2 ⟨rfl, X2, ha, hm⟩
                 have hS2 := Lib.hid ((hS.out.more hg4).step ha hm)
                 have HD := Lib.hid (dead_any hS2.out.at_)
                 have HO := Lib.hid (ops_any hS2.out.at_)
                 rw [hI2.out.dead] at HD
                 rw [hI2.out.ops] at HO
                 clear HA ha hm)
              | (go_at_call 21; (with_reducible refine HD.out.mono ?_); rintro e V3 ⟨rfl, rfl⟩; clear HD)
              | (go_at_call 23; (with_reducible refine HO.out.mono ?_); rintro e V4 ⟨rfl, rfl⟩; clear HO))
            go_roundw
            case rel => exact ⟨j + 1, d + 1, true, X2, s2, by omega, by omega, by simp, by simp, by simp, hS2, hI2⟩
            case measure => simp [intOf]; omega
        · have hd' : ¬ (d : Int) < (M : Int) := by omega
          rw [dead_write (hI.out.deadT hd) [97] [1]] at HA
          go_wp2_with (first
            | (go_at_call 11; (with_reducible refine (hWa.out _).mono ?_); rintro e V1 ⟨rfl, rfl⟩; clear hWa)
            | (go_at_call 13; (with_reducible refine HA.out.mono ?_); rintro e V2 ⟨rfl, X2, ha, hm⟩
               have hS2 := Lib.hid ((hS.out.more hg4).step ha hm)
               have HD := Lib.hid (dead_any hS2.out.at_)
               have HO := Lib.hid (ops_any hS2.out.at_)
               rw [hI.out.dead] at HD
               rw [hI.out.ops] at HO
               clear HA ha hm)
            | (go_at_call 21; (with_reducible refine HD.out.mono ?_); rintro e V3 ⟨rfl, rfl⟩; clear HD)
            | (go_at_call 23; (with_reducible refine HO.out.mono ?_); rintro e V4 ⟨rfl, rfl⟩; clear HO))
          go_roundw
          case rel => exact ⟨j + 1, d, is, X2, s, by omega, by omega, by simp, by simp, by simp, hS2, hI⟩
          case measure => simp [intOf]; omega
      · rw [hk] at hWa
        clear HA HM HB
        by_cases hd : d < M
        · have hd' : (d : Int) < (M : Int) := by omega
          obtain ⟨s2, e2, hI2⟩ := hI.out.k1 hd
          rw [e2] at HF
          have hI2 := Lib.hid hI2
          clear e2
          by_cases hdm : d + 1 = M
          · rw [decide_eq_true hdm] at HF
            go_wp2_with (first
              | (go_at_call 11; (with_reducible refine (hWa.out _).mono ?_); rintro e V1 ⟨rfl, rfl⟩; clear hWa)
              | (go_at_call 19; (with_reducible refine HF.out.mono ?_); rintro e V2 ⟨rfl, X2, ha, hm⟩
                 have hS2 := Lib.hid (hS.out.step ha hm)
                 have HD := Lib.hid (dead_any hS2.out.at_)
                 have HO := Lib.hid (ops_any hS2.out.at_)
                 rw [hI2.out.dead] at HD
                 rw [hI2.out.ops] at HO
                 clear HF ha hm)
              | (go_at_call 21; (with_reducible refine HD.out.mono ?_); rintro e V3 ⟨rfl, rfl⟩; clear HD)
              | (go_at_call 23; (with_reducible refine HO.out.mono ?_); rintro e V4 ⟨rfl, rfl⟩; clear HO))
            go_roundw
            case rel => exact ⟨j + 1, d + 1, is, X2, s2, by omega, by omega, by simp, by simp, by simp, hS2, hI2⟩
            case measure => simp [intOf]; omega
          · rw [decide_eq_false hdm] at HF
            have hdm' : ((d : Int) + 1 == (M : Int)) = false := by simp; omega
            go_wp2_with (first
              | (go_at_call 11; (with_reducible refine (hWa.out _).mono ?_); rintro e V1 ⟨rfl, rfl⟩; clear hWa)
              | (go_at_call 19; (with_reducible refine HF.out.mono ?_); rintro e V2 ⟨rfl, X2, ha, hm⟩
                 have hS2 := Lib.hid (hS.out.step ha hm)
                 have HD := Lib.hid (dead_any hS2.out.at_)
                 have HO := Lib.hid (ops_any hS2.out.at_)
                 rw [hI2.out.dead] at HD
                 rw [hI2.out.ops] at HO
                 clear HF ha hm)
              | (go_at_call 21; (with_reducible refine HD.out.mono ?_); rintro e V3 ⟨rfl, rfl⟩; clear HD)
              | (go_at_call 23; (with_reducible refine HO.out.mono ?_); rintro e V4 ⟨rfl, rfl⟩; clear HO))
            go_roundw
            case rel => exact ⟨j + 1, d + 1, is, X2, s2, by omega, by omega, by simp, by simp, by simp, hS2, hI2⟩
            case measure => simp [intOf]; omega
        · have hd' : ¬ (d : Int) < (M : Int) := by omega
          rw [dead_flush (hI.out.deadT hd)] at HF
          go_wp2_with (first
            | (go_at_call 11; (with_reducible refine (hWa.out _).mono ?_); rintro e V1 ⟨rfl, rfl⟩; clear hWa)
            | (go_at_call 19; (with_reducible refine HF.out.mono ?_); rintro e V2 ⟨rfl, X2, ha, hm⟩
               have hS2 := Lib.hid (hS.out.step ha hm)
               have HD := Lib.hid (dead_any hS2.out.at_)
               have HO := Lib.hid (ops_any hS2.out.at_)
               rw [hI.out.dead] at HD
               rw [hI.out.ops] at HO
               clear HF ha hm)
            | (go_at_call 21; (with_reducible refine HD.out.mono ?_); rintro e V3 ⟨rfl, rfl⟩; clear HD)
            | (go_at_call 23; (with_reducible refine HO.out.mono ?_); rintro e V4 ⟨rfl, rfl⟩; clear HO))
          go_roundw
          case rel => exact ⟨j + 1, d, is, X2, s, by omega, by omega, by simp, by simp, by simp, hS2, hI⟩
          case measure => simp [intOf]; omega
      · rw [hk] at hWa
        clear HA HF HB
        by_cases hd : d < M
        · cases is with
          | true =>
            have hd' : (d : Int) < (M : Int) := by omega
            obtain ⟨s2, e2, hI2⟩ := hI.out.k2 hd
            rw [e2] at HM
            have hI2 := Lib.hid hI2
            clear e2
            by_cases hdm : d + 1 = M
            · rw [decide_eq_true hdm] at HM
              go_wp2_with (first
                | (go_at_call 11; (with_reducible refine (hWa.out _).mono ?_); rintro e V1 ⟨rfl, rfl⟩; clear hWa)
                | (go_at_call 18; (with_reducible refine HM.out.mono ?_); rintro e V2 ⟨rfl, X2, ha, hm⟩
                   have hS2 := Lib.hid (hS.out.step ha hm)
                   have HD := Lib.hid (dead_any hS2.out.at_)
                   have HO := Lib.hid (ops_any hS2.out.at_)
                   rw [hI2.out.dead] at HD
                   rw [hI2.out.ops] at HO
                   clear HM ha hm)
                | (go_at_call 21; (with_reducible refine HD.out.mono ?_); rintro e V3 ⟨rfl, rfl⟩; clear HD)
                | (go_at_call 23; (with_reducible refine HO.out.mono ?_); rintro e V4 ⟨rfl, rfl⟩; clear HO))
              go_roundw
              case rel => exact ⟨j + 1, d + 1, false, X2, s2, by omega, by omega, by simp, by simp, by simp, hS2, hI2⟩
              case measure => simp [intOf]; omega
            · rw [decide_eq_false hdm] at HM
              have hdm' : ((d : Int) + 1 == (M : Int)) = false := by simp; omega
              go_wp2_with (first
                | (go_at_call 11; (with_reducible refine (hWa.out _).mono ?_); rintro e V1 ⟨rfl, rfl⟩; clear hWa)
                | (go_at_call 18; (with_reducible refine HM.out.mono ?_); rintro e V2 ⟨rfl, X2, ha, hm⟩
                   have hS2 := Lib.hid (hS.out.step ha hm)
                   have HD := Lib.hid (dead_any hS2.out.at_)
                   have HO := Lib.hid (ops_any hS2.out.at_)
                   rw [hI2.out.dead] at HD
                   rw [hI2.out.ops] at HO
                   clear HM ha hm)
                | (go_at_call 21; (with_reducible refine HD.out.mono ?_); rintro e V3 ⟨rfl, rfl⟩; clear HD)
                | (go_at_call 23; (with_reducible refine HO.out.mono ?_); rintro e V4 ⟨rfl, rfl⟩; clear HO))
              go_roundw
              case rel => exact ⟨j + 1, d + 1, false, X2, s2, by omega, by omega, by simp, by simp, by simp, hS2, hI2⟩
              case measure => simp [intOf]; omega
          | false =>
            have hd' : (d : Int) < (M : Int) := by omega
            rw [hI.out.k2n hd] at HM
            go_wp2_with (first
              | (go_at_call 11; (with_reducible refine (hWa.out _).mono ?_); rintro e V1 ⟨rfl, rfl⟩; clear hWa)
              | (go_at_call 18; (with_reducible refine HM.out.mono ?_); rintro e V2 ⟨rfl, X2, ha, hm⟩
                 have hS2 := Lib.hid (hS.out.step ha hm)
                 have HD := Lib.hid (dead_any hS2.out.at_)
                 have HO := Lib.hid (ops_any hS2.out.at_)
                 rw [hI.out.dead] at HD
                 rw [hI.out.ops] at HO
                 clear HM ha hm)
              | (go_at_call 21; (with_reducible refine HD.out.mono ?_); rintro e V3 ⟨rfl, rfl⟩; clear HD)
              | (go_at_call 23; (with_reducible refine HO.out.mono ?_); rintro e V4 ⟨rfl, rfl⟩; clear HO))
            go_roundw
            case rel => exact ⟨j + 1, d, false, X2, s, by omega, by omega, by simp, by simp, by simp, hS2, hI⟩
            case measure => simp [intOf]; omega
        · have hd' : ¬ (d : Int) < (M : Int) := by omega
          rw [dead_remove (hI.out.deadT hd) [97]] at HM
          go_wp2_with (first
            | (go_at_call 11; (with_reducible refine (hWa.out _).mono ?_); rintro e V1 ⟨rfl, rfl⟩; clear hWa)
            | (go_at_call 18; (with_reducible refine HM.out.mono ?_); rintro e V2 ⟨rfl, X2, ha, hm⟩
               have hS2 := Lib.hid (hS.out.step ha hm)
               have HD := Lib.hid (dead_any hS2.out.at_)
               have HO := Lib.hid (ops_any hS2.out.at_)
               rw [hI.out.dead] at HD
               rw [hI.out.ops] at HO
               clear HM ha hm)
            | (go_at_call 21; (with_reducible refine HD.out.mono ?_); rintro e V3 ⟨rfl, rfl⟩; clear HD)
            | (go_at_call 23; (with_reducible refine HO.out.mono ?_); rintro e V4 ⟨rfl, rfl⟩; clear HO))
          go_roundw
          case rel => exact ⟨j + 1, d, is, X2, s, by omega, by omega, by simp, by simp, by simp, hS2, hI⟩
          case measure => simp [intOf]; omega
      · rw [hk] at hWa
        clear HA HF HM
        obtain ⟨z101, hz101, hzm⟩ : ∃ z : Str, Hid (z.length = 101) ∧ Hid (z.map bv = List.replicate 101 (.int .u8 0)) := ⟨List.replicate 101 0, Lib.hid List.length_replicate, Lib.hid (by rw [List.map_replicate]; rfl)⟩
        by_cases hd : d < M
        · have hd' : (d : Int) < (M : Int) := by omega
          have hB5 : Hid (s.write [98] z101 = (s, 14)) := Lib.hid (hI.out.k3 hd hz101.out)
          go_wp2_with (first
            | (go_at_call 11; (with_reducible refine (hWa.out _).mono ?_); rintro e V1 ⟨rfl, rfl⟩; clear hWa)
            | (at_make; refine wpList_make_row _ rfl _ _ _ rfl 5 i0 _ Try.underlying31 hi0 hz0 hz1 rfl _ _ _ _ 101 rfl rfl (by simp) (by simp) (by rw [hz2]; omega) (by unfold maxLen; omega) ?_
               intro V5 hrow5 hg5 _
               have HB5 := Lib.hid (HB.out V5 hg5 _ z101 hz101.out (by rw [hzm.out]; exact Rd.of_row' hrow5))
               rw [hB5.out] at HB5
               clear HB)
            | (go_at_call 13; (with_reducible refine HB5.out.mono ?_); rintro e V2 ⟨rfl, X2, ha, hm⟩
               have hS2 := Lib.hid ((hS.out.more hg5).step ha hm)
               have HD := Lib.hid (dead_any hS2.out.at_)
               have HO := Lib.hid (ops_any hS2.out.at_)
               rw [hI.out.dead] at HD
               rw [hI.out.ops] at HO
               clear HB5 ha hm)
            | (go_at_call 21; (with_reducible refine HD.out.mono ?_); rintro e V3 ⟨rfl, rfl⟩; clear HD)
            | (go_at_call 23; (with_reducible refine HO.out.mono ?_); rintro e V4 ⟨rfl, rfl⟩; clear HO))
          go_roundw
          case rel => exact ⟨j + 1, d, is, X2, s, by omega, by omega, by simp, by simp, by simp, hS2, hI⟩
          case measure => simp [intOf]; omega
        · have hd' : ¬ (d : Int) < (M : Int) := by omega
          have hB5 : Hid (s.write [98] z101 = (s, 15)) := Lib.hid (dead_write (hI.out.deadT hd) [98] z101)
          go_wp2_with (first
            | (go_at_call 11; (with_reducible refine (hWa.out _).mono ?_); rintro e V1 ⟨rfl, rfl⟩; clear hWa)
            | (at_make; refine wpList_make_row _ rfl _ _ _ rfl 5 i0 _ Try.underlying31 hi0 hz0 hz1 rfl _ _ _ _ 101 rfl rfl (by simp) (by simp) (by rw [hz2]; omega) (by unfold maxLen; omega) ?_
               intro V5 hrow5 hg5 _
               have HB5 := Lib.hid (HB.out V5 hg5 _ z101 hz101.out (by rw [hzm.out]; exact Rd.of_row' hrow5))
               rw [hB5.out] at HB5
               clear HB)
            | (go_at_call 13; (with_reducible refine HB5.out.mono ?_); rintro e V2 ⟨rfl, X2, ha, hm⟩
               have hS2 := Lib.hid ((hS.out.more hg5).step ha hm)
               have HD := Lib.hid (dead_any hS2.out.at_)
               have HO := Lib.hid (ops_any hS2.out.at_)
               rw [hI.out.dead] at HD
               rw [hI.out.ops] at HO
               clear HB5 ha hm)
            | (go_at_call 21; (with_reducible refine HD.out.mono ?_); rintro e V3 ⟨rfl, rfl⟩; clear HD)
            | (go_at_call 23; (with_reducible refine HO.out.mono ?_); rintro e V4 ⟨rfl, rfl⟩; clear HO))
          go_roundw
          case rel => exact ⟨j + 1, d, is, X2, s, by omega, by omega, by simp, by simp, by simp, hS2, hI⟩
          case measure => simp [intOf]; omega
    · have hsm : Sm s := ⟨by rw [hI.out.ops]; have := hI.out.le; omega, by rw [hI.out.stop]; omega⟩
      have HC := Lib.hid (crash_any hS.out.at_ hsm none 0 0 [] (Lib.hid rfl) (Rd.nil _ _) (by simp) (by omega))
      have hops : (s.crash []).ops ≤ 10 := by show s.ops ≤ 10; rw [hI.out.ops]; have := hI.out.le; omega
      have fin : ∀ (h : ¬ (j < n ∧ j < 30)), (j < n ∧ ¬ j < 30) ∨ ¬ j < n := fun h => by omega
      rcases fin hlt with ⟨h1, h2⟩ | h1
      all_goals
        go_wp2_with (first
          | (go_at_call 20; (with_reducible refine HC.out.mono ?_); rintro e V2 ⟨rfl, X2, ha, hm⟩
             have hS2 := Lib.hid (hS.out.step ha hm)
             have HD := Lib.hid (dead_any hS2.out.at_)
             have HF := Lib.hid (flush_any hS2.out.at_ ⟨by omega, Nat.zero_le _⟩)
             rw [show (s.crash []).dead = false from rfl] at HD
             rw [crash_flush] at HF
             clear HC ha hm)
          | (go_at_call 21; (with_reducible refine HD.out.mono ?_); rintro e V3 ⟨rfl, rfl⟩; clear HD)
          | (go_at_call 19; (with_reducible refine HF.out.mono ?_); rintro e V4 ⟨rfl, X4, ha4, hm4⟩))
        go_ret
        exact ⟨rfl, (hS2.out.step ha4 hm4).gr⟩
end Go.Proofs.Ytopellbmmkflgaa
