/- Package cadenceref15: Write, Remove, Flush. -/
import Derived.Test.YtopellbmmkflgaaRfC3
set_option linter.unusedVariables false
set_option linter.unusedSimpArgs false
namespace Go.Proofs.Ytopellbmmkflgaa
open Go.RowKit Go.Maps Go.Sort
attribute [local go_sem] Vc.known_tmp Vc.known_const Vc.known_func Vc.known_global Vc.lk Vc.okUpon Vc.Fact.holds
theorem st_gr {Φ : Vc.Frames} {F : Value → World → Prop} (hL : ∀ w w', Φ.Le w w' → Gr w w') (hC : ∀ k w w', Φ.LeC k w w' → Gr w w') (h : ∀ {v w w'}, Gr w w' → F v w → F v w') : (Vc.Fact.fits (Vc.All F)).stable Φ :=
  Vc.All.stable (fun _ _ _ hl hf => h (hL _ _ hl) hf) (fun _ _ _ _ _ hl hf => h (hC _ _ _ hl) hf)
section
variable {X : Nat → Prop} {w w' : World} {p c1 c2 : Nat} {A1 A2 : Option Addr} {s : V}
theorem RMem.push (h : RMem w X p A1 c1 A2 c2 s) {A' : Option Addr} {xs : List Value} (hk : AppK w w' A2 A' xs) {m c' : Nat} {L : List Ch} (l' : Files) (ho : OOwn w' 0 A' m c' L) :
    w'.cell? ⟨p, 1, none⟩ = some (.slice A2 s.since.length c2) ∧ w'.frozen? ⟨p, 1, none⟩ = false ∧
    RMem (w'.setCell ⟨p, 1, none⟩ (.slice A' m c')) (fun i => X i ∨ blkOf A' = some i) p A1 c1 A' c' { s with now := l', since := L } ∧
    Mv w X (w'.setCell ⟨p, 1, none⟩ (.slice A' m c')) (fun i => X i ∨ blkOf A' = some i) := by
  have hg := hk.grown
  have hpr : Row w' p 75 (refCells A1 c1 A2 c2 s) := (hg.block _ h.row.lt (fun e => h.ne2 e.symm rfl)).trans h.row
  have hkp : FOwn w' 0 A1 s.kept.length c1 s.kept := h.kept.keep hg (fun g hg1 e => h.ne12 hg1 e rfl)
  have hg2 := only_set w' p 1 (.slice A' m c')
  have hsz : w.heap.size ≤ w'.heap.size := hg.size
  obtain rfl := oown_len ho
  refine ⟨hpr.cell 1, hpr.frozen 1, ⟨hpr.set 1 _, hkp.keep hg2 (fun g hg1 e => by injection e with e; exact h.ne1 hg1 e), ho.keep hg2 ?_, .inl h.xp, fun g hg => .inl (h.x1 g hg), fun g hg => .inr hg, fun i hi => ?_⟩, ?_, fun _ h => .inl h, fun i hi => ?_⟩
  · intro g hga e
    injection e with e
    obtain ⟨ys, hr⟩ := own_row ho hga
    exact hpr.ne hr (by decide) e
  · refine Nat.lt_of_lt_of_le ?_ hg2.size
    rcases hi with hi | hi
    · exact Nat.lt_of_lt_of_le (h.lt i hi) hsz
    · exact (ho.blk i hi).2
  · exact (Tr.of_grown (X := X) hg (fun g e => h.x2 g e)).trans (Tr.of_grown (X := X) hg2 (fun g e => by injection e with e; exact e ▸ h.xp)) (fun _ _ h => h)
  · rcases hi with hi | hi
    · exact .inl hi
    · rcases hk.2.1 with ⟨rfl, _⟩ | ⟨rfl, _⟩
      · exact .inl (h.x2 i hi)
      · injection hi with hi
        exact .inr (Nat.le_of_eq hi)
theorem Mv.op {X X' : Nat → Prop} {w w1 w2 : World} {p : Nat} (h : Mv w X w1 X') (hg : w1.grownBy w2 (some p)) (hp : X' p) : Mv w X w2 X' :=
  h.trans ⟨Tr.of_grown hg (fun g e => by injection e with e; exact e ▸ hp), fun _ h => h, fun _ h => .inl h⟩
theorem oc_snoc (l : List Ch) (ch : Ch) : (l ++ [ch]).flatMap oc = l.flatMap oc ++ [encStr ch.name, encStr ch.b, .bool ch.gone] := by
  rw [List.flatMap_append]; rfl
theorem write_used {s : V} (h : s.now.Rising) (n b : Str) : Files.used ((⟨n, b, false⟩ : Ch).act s.now) = s.now.used - ((s.now.get n).getD []).length + b.length := by
  have h1 := used_put h n b
  have h2 := get_le_used s.now n
  have h3 : (⟨n, b, false⟩ : Ch).act s.now = s.now.put n b := by simp [Ch.act]
  rw [h3]
  omega

set_option maxRecDepth 20000 in
set_option maxHeartbeats 4000000 in
/-- (*Vfs).Write -/
theorem rwrite_any (h : RAt w X p s) (hs : Sm s) (n b : Str) (hbl : b.length ≤ 1000000) :
    Calls Try.prog 37 #[.pointer (some ⟨p, 0, none⟩), encStr n, encStr b] w fun e w' => e = .returned (.int .i64 (s.write n b).2) ∧ ∃ X', RAt w' X' p (s.write n b).1 ∧ Mv w X w' X' := by
  have h' := h
  obtain ⟨hok, hnw, A1, c1, A2, c2, h⟩ := h
  obtain ⟨y0, y1, y2, y3, y4, y5⟩ := h.cells
  have hsz : (⟨n.toArray⟩ : ByteArray).size = n.length := by simp [ByteArray.size]
  cases hd : s.dead with
  | true =>
    have e1 : s.write n b = (s, 15) := by simp [V.write, hd]
    rw [e1]
    rw [hd] at y4
    go_enter Try.func37, Try.ntmps37
    go_wp2
    go_ret
    exact ⟨rfl, X, h', Mv.rfl' _ _⟩
  | false =>
    rw [hd] at y4
    by_cases h0 : n = []
    · have e1 : s.write n b = (s, 12) := by simp [V.write, hd, h0]
      rw [e1]
      subst h0
      go_enter Try.func37, Try.ntmps37
      go_wp2
      go_ret
      exact ⟨rfl, X, h', Mv.rfl' _ _⟩
    · have hne : List.isEmpty n = false := by
        cases n with
        | nil => exact absurd rfl h0
        | cons x r => rfl
      by_cases h20 : 20 < n.length
      · have e1 : s.write n b = (s, 12) := by simp [V.write, hd, h20]
        rw [e1]
        have h20' : (20 : Int) < (n.length : Int) := by omega
        go_enter Try.func37, Try.ntmps37
        go_wp2
        go_ret
        exact ⟨rfl, X, h', Mv.rfl' _ _⟩
      · have h20' : ¬ (20 : Int) < (n.length : Int) := by omega
        have husd := used_small hok hs.ops
        have hroom := hok.room
        have hnl := hok.nowL
        have hkl := hok.keptL
        have hso := hs.ops
        unfold mostRoom at husd hroom
        have hwu := write_used hok.now n b
        have hgl := get_le_used s.now n
        have hal := act_length s.now ⟨n, b, false⟩
        obtain ⟨U, hU⟩ : ∃ U, Files.used ((⟨n, b, false⟩ : Ch).act s.now) = U := ⟨_, rfl⟩
        have hcond : (s.room < s.now.used - ((s.now.get n).getD []).length + b.length) = (s.room < U) := by rw [← hwu, hU]
        have hUb : U ≤ 4611686018427387904 := by omega
        have HN := Lib.hid (fun W hW => now_any (w := W) (h.gr hW) hok hnw hs)
        have HW := Lib.hid (fun (W : World) (B : Nat) (A : Option Addr) (n0 c : Nat) (hf : FOwn W B A n0 c s.now) => with_any hf hok.now ⟨n, b, false⟩ (by have := fown_len hf; omega))
        have HU := Lib.hid (fun (W : World) (B : Nat) (A : Option Addr) (n0 c : Nat) (hf : FOwn W B A n0 c ((⟨n, b, false⟩ : Ch).act s.now)) => hU ▸ rused_any hf (by have := fown_len hf; omega) (by omega))
        unfold opV at HW
        have z2 := Lib.hid y2
        clear hwu hgl hal y0 y1 y2 y3 y5
        go_enter Try.func37, Try.ntmps37
        go_wp2_with fail
        refine Vc.wp_region_facts ⟨Gr, fun _ => Gr, fun _ W => Gr w W, []⟩ (by kernel_rfl) (by kernel_rfl) (fun _ _ _ h h' => h'.trans' h) (Gr.draw _) ?_
        repeat
          refine Vc.Walk.pure (v := ?_) (fun _ => Gr.rfl' _) rfl (by first | exact Vc.GuardYes.no rfl | exact Vc.GuardYes.yes rfl rfl) rfl rfl ?_ ?_
          rotate_left
          · intro _ W hI
            (clear hI)
            go_simp
            exact rfl
        refine Vc.Walk.call (.fits (Vc.All (FV X w.heap.size s.now))) (st_gr (fun _ _ h => h) (fun _ _ _ h => h) FV.gr) (.no rfl) rfl rfl ?_ ?_
        · intro k W hI
          have hg := hI.g
          clear hI
          go_simp
          refine (HN.out W hg).mono ?_
          rintro e W' ⟨v, rfl, ⟨A, n0, c, rfl, ho, hx⟩, hg'⟩
          exact ⟨_, rfl, ⟨A, n0, c, rfl, ho, fun g hg2 => (hx g hg2).imp id (fun h => Nat.le_trans hg.size h)⟩, hg'⟩
        repeat
          refine Vc.Walk.pure (v := ?_) (fun _ => Gr.rfl' _) rfl (by first | exact Vc.GuardYes.no rfl | exact Vc.GuardYes.yes rfl rfl) rfl rfl ?_ ?_
          rotate_left
          · intro _ W hI
            (clear hI)
            go_simp
            exact rfl
        refine Vc.Walk.any (.fits (Vc.All (FV X w.heap.size ((⟨n, b, false⟩ : Ch).act s.now)))) (st_gr (fun _ _ h => h) (fun _ _ _ h => h) FV.gr) (.no rfl) ?_ ?_
        · intro ρ k W hI hf
          have hg := hI.g
          obtain ⟨hρ0, ⟨A, n0, c, hρ1, ho, hx⟩, hρ2, _⟩ := hf
          have e0 : ρ (.func 50) = .func (.func 50) #[] #[] := hρ0
          have e1 : ρ (.tmp 22) = .slice A n0 c := hρ1
          have e2 : ρ (.tmp 25) = .agg #[encStr n, encStr b, .bool false] := hρ2
          clear hI hρ0 hρ1 hρ2
          go_simp
          refine (HW.out W 0 A n0 c ho).mono ?_
          rintro e W' ⟨A', c', rfl, ho', hg'⟩
          exact ⟨_, rfl, ⟨A', _, c', rfl, ho'.more (fun _ _ => Nat.zero_le _), fun g hg2 => .inr (Nat.le_trans hg.size (ho'.blk g hg2).1)⟩, hg'⟩
        refine Vc.Walk.any (.is (.int .i64 U)) trivial (.no rfl) ?_ ?_
        · intro ρ k W hI hf
          obtain ⟨hρ0, ⟨A, n0, c, hρ1, ho, hx⟩, _⟩ := hf
          have e0 : ρ (.func 49) = .func (.func 49) #[] #[] := hρ0
          have e1 : ρ (.tmp 26) = .slice A n0 c := hρ1
          clear hI hρ0 hρ1
          go_simp
          refine (HU.out W 0 A n0 c ho).mono ?_
          rintro e W' ⟨rfl, rfl⟩
          exact ⟨_, rfl, rfl, Gr.rfl' _⟩
        repeat
          refine Vc.Walk.pure (v := ?_) (fun _ => Gr.rfl' _) rfl (by first | exact Vc.GuardYes.no rfl | exact Vc.GuardYes.yes rfl rfl) rfl rfl ?_ ?_
          rotate_left
          · intro _ W hI
            (have q := hI.g; clear hI; have q2 := q.cell z2.out; clear q)
            go_simp
            exact rfl
        intro W hW
        have hW : Gr w W := hW
        simp only [List.reverse_cons, List.reverse_nil, List.nil_append, List.cons_append, Vc.finish, Act.put, List.setIfInBounds_toArray, List.set_cons_zero, List.set_cons_succ]
        rintro _ _ _ _
        clear HN HW HU z2
        by_cases hf : s.room < U
        · have e1 : s.write n b = (s, 14) := by
            simp only [V.write, hd, Bool.false_eq_true, if_false, h0, h20, or_self, hcond, if_pos hf]
          replace e1 := Lib.hid e1
          have hf' : (s.room : Int) < (U : Int) := by omega
          go_wp2_with fail
          go_ret
          rw [e1.out]
          exact ⟨rfl, X, h'.gr hW, Mv.of_gr hW X⟩
        · have e1 : s.write n b = (s.done ⟨n, b, false⟩, deadNo (s.done ⟨n, b, false⟩).dead) := by
            simp only [V.write, hd, Bool.false_eq_true, if_false, h0, h20, or_self, hcond, if_neg hf]
          have hf' : ¬ (s.room : Int) < (U : Int) := by omega
          have hok2 := ok_done hok (c := ⟨n, b, false⟩) (by simp only; omega) (by unfold mostRoom; simp only; rw [← hU, write_used hok.now] at hf; omega)
          have hnw2 := nw_done hnw ⟨n, b, false⟩
          obtain ⟨i0, hi, hz0, hz1, hz2⟩ := info_parts info_op
          obtain ⟨q0, q1, _⟩ := (h.gr hW).cells
          obtain ⟨m, hm⟩ : ∃ m, s.since.length = m := ⟨_, rfl⟩
          rw [hm] at q1
          have hoB := Lib.hid ((h.gr hW).since)
          rw [hm] at hoB
          replace hm := Lib.hid hm
          have hml : m ≤ 1000000 := by have := hm.out; omega
          clear hcond hU
          generalize hs5 : s.done ⟨n, b, false⟩ = s5 at *
          replace hs5 := Lib.hid hs5
          replace e1 := Lib.hid e1
          go_wp2_with (first
            | (at_builtin; with_reducible refine wpList_append (o := ⟨some 42, _, _, _, _, _⟩) _ rfl _ _ 73 rfl 0 88 i0 _ 3 40 Try.underlying73 hi hz0 hz1 hz2 rfl (by omega) A2 m c2 _ rfl (hoB.out.gr (Gr.alloc1 _ _)) _ 1 1 [encStr n, encStr b, .bool false] rfl rfl (Rd.new _ [encStr n, encStr b, .bool false] _) (by simp [Value.oneCell']) (by omega) (by unfold maxLen; omega) (Nat.zero_le _) ?_
               intro A6 c6 w6 ho6 hk6
               obtain ⟨k0, k1, hm6, hM6⟩ := ((h.gr hW).gr (Gr.alloc1 W (.cells #[encStr n, encStr b, .bool false] 88))).push hk6 ((⟨n, b, false⟩ : Ch).act s.now) (L := s.since ++ [⟨n, b, false⟩]) (m := m + 1) (c' := c6) (by unfold OOwn; rw [oc_snoc]; exact ho6)
               have HO := Lib.hid (op_any hm6 ⟨hs.ops, hs.stop⟩)
               rw [show V.step ({ s with now := ((⟨n, b, false⟩ : Ch).act s.now), since := s.since ++ [⟨n, b, false⟩] } : V) = s5 from hs5.out] at HO
               clear ho6 hk6 hm6)
            | (go_at_call 52; (with_reducible refine HO.out.mono ?_); rintro e w7 ⟨rfl, hm7, hg7⟩))
          go_ret
          rw [e1.out]
          exact ⟨rfl, _, ⟨hok2, hnw2, _, _, _, _, hm7⟩, ((Mv.of_gr (hW.trans' (Gr.alloc1 _ _)) X).trans hM6).op hg7 (.inl h.xp)⟩
end
end Go.Proofs.Ytopellbmmkflgaa
