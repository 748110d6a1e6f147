/- VfsPlays: the walk. -/
import Derived.Test.YtopellbmmkflgaaVpF
set_option linter.unusedVariables false
set_option linter.unusedSimpArgs false
namespace Go.Proofs.Ytopellbmmkflgaa
open Go.RowKit Go.Maps Go.Sort
attribute [local go_sem] Vc.known_tmp Vc.known_const Vc.known_func Vc.known_global Vc.lk Vc.okUpon Vc.Fact.holds
def NG (w0 : World) (r : Int) : Nat → World → Prop := fun k W =>
  match k with
  | 0 => W = w0
  | _ => At W (fun i => w0.heap.size ≤ i ∧ i < w0.heap.size + 1 + 1 + 1) (w0.heap.size + 1 + 1) (V.new r) ∧ Gr w0 W
def RF (w0 : World) (r : Int) (v : Value) (W : World) : Prop := ∃ q R, v = .pointer (some ⟨q, 0, none⟩) ∧ RAt W R q (V.new r) ∧ ∀ i, R i → w0.heap.size + 1 + 1 + 1 ≤ i
theorem RF.gr {w0 W W' : World} {r : Int} {v : Value} (hg : Gr W W') (h : RF w0 r v W) : RF w0 r v W' := by
  obtain ⟨q, R, e, h1, h2⟩ := h
  exact ⟨q, R, e, h1.gr hg, h2⟩
def PS (w0 W : World) (p q j : Nat) : Prop := ∃ X R s, SR w0 W X R p q s s ∧ s.ops ≤ j ∧ s.stop ≤ 7
set_option maxRecDepth 20000 in
set_option maxHeartbeats 4000000 in
theorem vfsPlays.walk (w : World) (r : Int) (r0 : -9223372036854775808 ≤ r) (r1 : r ≤ 9223372036854775807) (A : Option Addr) (n c : Nat) (rs : List AcR) (hn : Hid (rs.length = n)) (hr : ActsAt w A n rs) (hok : ∀ q ∈ rs, q.Ok w) (hlc : n ≤ c) (hcm : c ≤ maxLen) :
    Calls Try.prog 9 #[.int .i64 r, .slice A n c] w fun e w' => e = .returned (.bool true) ∧ Gr w w' := by
  have hK := Lib.hid (known_any w)
  have HF := Lib.hid (fun W (hW : Gr w W) => few_any W A n c rs hn (hr.gr hW) hlc hcm)
  have HI := Lib.hid (fun W => within1_any r 200 W r0 r1 (by decide) (by decide))
  have k0 := Int.emod_nonneg r (show (200 : Int) ≠ 0 by decide)
  have k1 := Int.emod_lt_of_pos r (show (0 : Int) < 200 by decide)
  generalize hr2 : r % 200 = r2 at *
  clear hr2
  go_enter Try.func9, Try.ntmps9
  go_wp2_with (go_at_call 10; (with_reducible refine hK.out.mono ?_); rintro e w1 ⟨rfl, hg1⟩; clear hK)
  go_at_call 24
  (with_reducible refine (HF.out _ hg1).mono ?_)
  rintro e w2 ⟨f, rfl, rfl, hfw⟩
  cases f with
  | false =>
    go_wp2
    go_ret
    exact ⟨rfl, hg1⟩
  | true =>
    obtain ⟨hn50, hfew⟩ := hfw rfl
    clear HF
    go_wp2_with (go_at_call 11; (with_reducible refine (HI.out _).mono ?_); rintro e w2 ⟨rfl, rfl⟩; clear HI)
    have hrow := Row.new w1 3 [.int .i64 r, .int .i64 (50 + r2)]
    have hgA := Gr.alloc1 w1 (.cells [.int .i64 r, .int .i64 (50 + r2)].toArray 3)
    generalize hgr : w1.heap.size = gR at *
    clear hgr
    generalize w1.alloc (.cells #[.int .i64 r, .int .i64 (50 + r2)] 3) = w5 at *
    have hg5 := hg1.trans' hgA
    go_loopw [6] (fun i wr => ∃ k : Nat, k ≤ 2 ∧ i = .int .i64 k ∧ Gr w5 wr) (fun i _ => 2 - (intOf i).toNat)
    case atStart => exact ⟨0, by omega, rfl, Gr.rfl' _⟩
    case round =>
      obtain ⟨k, hk, rfl, hb⟩ := hrel
      by_cases hlt : k < 2
      · obtain ⟨rk, hrk⟩ : ∃ rk, wr.cell? ⟨gR, k, none⟩ = some (.int .i64 rk) := by
          have h1 := (hrow.gr hb).cell k
          have h2 : k = 0 ∨ k = 1 := by omega
          rcases h2 with rfl | rfl
          · exact ⟨_, h1⟩
          · exact ⟨_, h1⟩
        have i1 : (k : Int) < 2 := by omega
        go_wp2_with fail
        refine Vc.wp_region_facts ⟨fun W W' => W = W', fun _ => Gr, NG wr.drew rk, [4, 9]⟩ (by kernel_rfl) (by kernel_rfl) (fun _ _ _ h h' => h ▸ h') rfl ?_
        have hrkd : wr.drew.cell? ⟨gR, k, none⟩ = some (.int .i64 rk) := hrk
        have hq : ∀ {j : Nat} {W : World}, NG wr.drew rk j W → W.cell? ⟨gR, k, none⟩ = some (.int .i64 rk) := fun {j W} h => by
          unfold NG at h
          split at h
          · rw [h]; exact hrkd
          · exact h.2.cell hrkd
        have HN := Lib.hid (new_at rk wr.drew)
        have HR := Lib.hid (fun W => rnew_any rk W)
        repeat
          refine Vc.Walk.pure (v := ?_) (fun _ => rfl) rfl (by first | exact Vc.GuardYes.no rfl | exact Vc.GuardYes.yes rfl rfl) rfl rfl ?_ ?_
          rotate_left
          · intro _ W hI
            (have q0 := hq hI.g; clear hI)
            go_simp
            exact rfl
        refine Vc.Walk.call (.is (.pointer (some ⟨wr.drew.heap.size + 1 + 1, 0, none⟩))) trivial (.no rfl) rfl rfl ?_ ?_
        · intro j W hI
          obtain rfl := hI.eq 0 rfl
          have hg : W = wr.drew := hI.g
          clear hI
          subst hg
          go_simp
          refine HN.out.mono ?_
          rintro e W' ⟨rfl, ha, hg⟩
          exact ⟨_, rfl, rfl, hg, ha, hg⟩
        repeat
          refine Vc.Walk.pure (v := ?_) (fun _ => rfl) rfl (by first | exact Vc.GuardYes.no rfl | exact Vc.GuardYes.yes rfl rfl) rfl rfl ?_ ?_
          rotate_left
          · intro _ W hI
            (have q0 := hq hI.g; clear hI)
            go_simp
            exact rfl
        refine Vc.Walk.call (.fits (Vc.All (RF wr.drew rk))) (st_gr (fun _ _ h => h ▸ Gr.rfl' _) (fun _ _ _ h => h) RF.gr) (.no rfl) rfl rfl ?_ ?_
        · intro j W hI
          obtain rfl := hI.eq 1 rfl
          obtain ⟨ha, hg⟩ : At W (fun i => wr.drew.heap.size ≤ i ∧ i < wr.drew.heap.size + 1 + 1 + 1) (wr.drew.heap.size + 1 + 1) (V.new rk) ∧ Gr wr.drew W := hI.g
          clear hI
          go_simp
          refine (HR.out W).mono ?_
          rintro e W' ⟨q, R, rfl, hx, hg', hR⟩
          have h3 := ha.lt (wr.drew.heap.size + 1 + 1) ⟨by omega, by omega⟩
          exact ⟨_, rfl, ⟨q, R, rfl, hx, fun i hi => Nat.le_trans h3 (hR i hi)⟩, hg', ha.gr hg', hg.trans' hg'⟩
        repeat
          refine Vc.Walk.pure (v := ?_) (fun _ => rfl) rfl (by first | exact Vc.GuardYes.no rfl | exact Vc.GuardYes.yes rfl rfl) rfl rfl ?_ ?_
          rotate_left
          · intro _ W hI
            (clear hI)
            go_simp
            exact rfl
        refine Vc.Walk.any (.fits (Vc.All (RF wr.drew rk))) (st_gr (fun _ _ h => h ▸ Gr.rfl' _) (fun _ _ _ h => h) RF.gr) (.no rfl) ?_ ?_
        · intro ρ j W hI hf
          obtain ⟨hρ, _⟩ := hf
          clear hI
          go_simp
          exact ⟨hρ, rfl⟩
        rintro W ⟨ha, hgW⟩
        simp only [List.reverse_cons, List.reverse_nil, List.nil_append, List.cons_append, Vc.finish, Act.put, List.setIfInBounds_toArray, List.set_cons_zero, List.set_cons_succ]
        rintro u33 _ u8 ⟨q, R, rfl, hx, hR⟩
        have hS0 : PS wr W (wr.drew.heap.size + 1 + 1) q 0 := ⟨_, R, _, ⟨⟨ha, (Gr.draw wr).trans' hgW, fun i hi => hi.1⟩, hx, fun i hi => Nat.le_trans (show wr.heap.size ≤ wr.drew.heap.size + 1 + 1 + 1 from by show wr.heap.size ≤ wr.heap.size + 1 + 1 + 1; omega) (hR i hi), fun i hi hr => by have := hR i hr; omega⟩, Nat.zero_le _, Nat.zero_le _⟩
        rw [show wr.drew.heap.size = wr.heap.size from rfl] at hS0 ⊢
        replace hS0 := Lib.hid hS0
        generalize wr.heap.size + 1 + 1 = p at *
        clear ha hx hR HN HR hq hrk hrkd
        have hWr := (Gr.draw wr).trans' hgW
        clear hgW
        go_wp2_with fail
        go_loopw [9] (fun i wq => ∃ j : Nat, j ≤ n ∧ i = .int .i64 j ∧ Hid (PS wr wq p q j) ∧ Gr wr wq) (fun i _ => n - (intOf i).toNat)
        case atStart => exact ⟨0, by omega, rfl, hS0, hWr⟩
        case round =>
          obtain ⟨j, hj, rfl, hS, hbq⟩ := hrel
          by_cases hjn : j < n
          · have hjl : j < rs.length := by have := hn.out; omega
            have hq := hok rs[j] (List.getElem_mem hjl)
            have hf := hfew rs[j] (List.getElem_mem hjl)
            have hG := (hg5.trans' hb).trans' hbq
            obtain ⟨g, off, rfl, x0, x1, x2, x3, x4⟩ := (hr.gr hG).at_ hjl hjn
            generalize rs[j] = a at *
            obtain ⟨X, R, s, hSR, ho, hst⟩ := hS.out
            have hD := Lib.hid (actdo_any hSR ⟨by omega, by omega⟩ ⟨by show s.ops + 1 ≤ 1000000; omega, by show s.stop - 1 ≤ 1000000; omega⟩ a.K a.N hq.k0 hq.k1 hq.n0 hq.n1 a.nm hf.nm a.q.A a.q.n a.q.c a.q.b hq.b.len (hq.b.rd.gr (hg5.trans' hb)) hf.b a.Ak a.nk a.ck a.ks hq.klen (hq.krd.gr (hg5.trans' hb)) hf.ks)
            have ho2 := actDo_ops s a.K a.N a.nm a.q.b a.ks
            have hst2 := actDo_stop s a.K a.N a.nm a.q.b a.ks hst
            generalize actDo s a.K a.N a.nm a.q.b a.ks = s2 at *
            unfold actV at hD
            clear hS hSR hq hf
            go_wp2_with (first
              | (go_at_call 26; (with_reducible refine hD.out.mono ?_); rintro e w6 ⟨rfl, X6, R6, hS6⟩
                 have hSm := Lib.hid (same_any hS6.v.at_ hS6.x ⟨by omega, by omega⟩))
              | (go_at_call 27; (with_reducible refine hSm.out.mono ?_); rintro e w7 ⟨rfl, hg7⟩))
            go_roundw
            case rel => exact ⟨j + 1, by omega, by go_num, Lib.hid ⟨X6, R6, s2, hS6.more hg7, by omega, hst2⟩, (hS6.more hg7).v.gr⟩
            case measure => simp [intOf]; omega
          · obtain rfl : j = n := by omega
            go_wp2_with fail
            go_roundw
            case rel => exact ⟨k + 1, by omega, by go_num, hb.trans' hbq⟩
            case measure => simp [intOf]; omega
      · obtain rfl : k = 2 := by omega
        go_wp2
        go_ret
        exact ⟨rfl, hg5.trans' hb⟩
end Go.Proofs.Ytopellbmmkflgaa
