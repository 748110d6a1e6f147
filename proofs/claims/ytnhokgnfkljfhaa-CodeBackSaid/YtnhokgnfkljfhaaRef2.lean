/- Package cadenceref1: the reader's methods. -/
import Derived.Test.YtnhokgnfkljfhaaRef1
import Derived.Test.YtnhokgnfkljfhaaVc
set_option linter.unusedVariables false
set_option linter.unusedSimpArgs false
namespace Go.Proofs.Ytnhokgnfkljfhaa
open Go.RowKit

theorem RefAt.drewN {w : World} {g : Nat} {s : Rs} (h : RefAt w g s) (n : Nat) : RefAt (w.drewN n) g s := by
  obtain ⟨A, c, L, p, h1, h2, h3⟩ := h
  exact ⟨A, c, L, p, h1.drewN n, h2.drewN n, h3⟩

def RefNum (w : World) (g : Nat) (n : Int) (s : Rs) (e : Ending) (w' : World) : Prop := e = .returned (.int .i64 n) ∧ RefAt w' g s ∧ w.grownBy w' (some g)
def RefStr (w : World) (g : Nat) (o : List UInt8 × Rs) (e : Ending) (w' : World) : Prop := e = .returned (.string ⟨o.1.toArray⟩) ∧ RefAt w' g o.2 ∧ w.grownBy w' (some g)

theorem RefAt.apart {w : World} {g : Nat} {s : Rs} (h : RefAt w g s) {A : Option Addr} {bs : List UInt8} (hd : Rd w A (bs.map bv)) : RdN w g A (bs.map bv) := by
  obtain ⟨A', c, L, p, hr, _⟩ := h
  exact hd.apart hr (ref_cells _ _ _ _ _)

theorem num_one (o : List UInt8) (h : o.length = 1) : (num o : Int) = ((o.getD 0 0).toNat : Int) := by
  match o, h with
  | [b], _ => simp [num]

theorem two_of_len (l : List UInt8) (h : l.length = 2) : ∃ a b, l = [a, b] := by
  match l, h with
  | [a, b], _ => exact ⟨a, b, rfl⟩

theorem takeS_len (s : Rs) (k : Nat) : (takeS s k).1 = [] ∨ (takeS s k).1.length = k := by
  unfold takeS
  split
  · split
    · right; simp; omega
    · left; rfl
  · left; rfl

theorem xByte'_any (g : Nat) (s : Rs) (w : World) (hs : RefAt w g s) :
    Calls Try.prog 26 #[.pointer (some ⟨g, 0, none⟩)] w (RefNum w g (byteS s).1 (byteS s).2) := by
  have hl := takeS_len s 1
  have H := Lib.hid (xtake_any g s 1 w hs (by omega))
  unfold byteS
  generalize takeS s 1 = o at *
  obtain ⟨out, s'⟩ := o
  simp only at hl
  rcases hl with rfl | hl
  · go_enter Try.func26, Try.ntmps26
    go_wp2_with (go_at_call 35; refine H.out.mono ?_; rintro e w1 ⟨A, n, c, rfl, hn, hd, hr, ho⟩; obtain rfl := hn.out)
    go_ret
    exact ⟨rfl, hr, ho⟩
  · match out, hl with
    | [b], _ =>
      go_enter Try.func26, Try.ntmps26
      go_wp2_with (go_at_call 35; refine H.out.mono ?_; rintro e w1 ⟨A, n, c, rfl, hn, hd, hr, ho⟩; obtain rfl := hn.out; obtain ⟨ad, rfl, hc⟩ := hd.at_ (k := 0) (by simp); simp only [List.map_cons, List.getElem_cons_zero, bv] at hc; have hc0 : w1.cell? ad = some (.int .u8 b.toNat) := by simpa [Addr.add] using hc)
      go_ret
      exact ⟨by
        have hw : wrap64 (b.toNat : Int) = b.toNat := by have := b.toNat_lt; unfold wrap64; omega
        simp [num, hw], hr, ho⟩

theorem num_drop (o : List UInt8) (j : Nat) (hj : j < o.length) : num (o.drop j) = o[j].toNat + 256 * num (o.drop (j + 1)) := by
  rw [List.drop_eq_getElem_cons hj]
  rfl

theorem num_shl (o : List UInt8) (j : Nat) (hj : j < o.length) (h8 : o.length ≤ 8) :
    bits .or .u64 (IntKind.u64.wrap ((num (o.drop (j + 1)) : Int) * 256)) (IntKind.u64.wrap (o[j].toNat : Int)) = (num (o.drop j) : Int) := by
  have h1 := num_lt (o.drop (j + 1))
  have h2 : 256 ^ (o.drop (j + 1)).length ≤ 256 ^ 7 := Nat.pow_le_pow_right (by omega) (by rw [List.length_drop]; omega)
  have hb := o[j].toNat_lt
  have e1 : IntKind.u64.wrap ((num (o.drop (j + 1)) : Int) * 256) = ((num (o.drop (j + 1)) * 256 : Nat) : Int) := by
    have e0 : (num (o.drop (j + 1)) : Int) * 256 = ((num (o.drop (j + 1)) * 256 : Nat) : Int) := by omega
    rw [e0, IntKind.wrap_u64]
    omega
  have e2 : IntKind.u64.wrap (o[j].toNat : Int) = (o[j].toNat : Int) := by rw [IntKind.wrap_u64]; omega
  have e7 : (256 : Nat) ^ 7 = 72057594037927936 := by decide
  rw [e7] at h2
  rw [e1, e2, u64_or_nat _ _ (by omega) (by omega), num_drop o j hj]
  have := Nat.two_pow_add_eq_or_of_lt (i := 8) (b := o[j].toNat) (by simpa using hb) (num (o.drop (j + 1)))
  have e3 : num (o.drop (j + 1)) * 256 = 2 ^ 8 * num (o.drop (j + 1)) := by omega
  rw [e3, ← this]
  omega

theorem xInt'_any (g : Nat) (s : Rs) (w : World) (hs : RefAt w g s) :
    Calls Try.prog 25 #[.pointer (some ⟨g, 0, none⟩)] w (RefNum w g (intS s).1 (intS s).2) := by
  have hle := takeS_fst_le s 8
  have H := Lib.hid (xtake_any g s 8 w hs (by omega))
  unfold intS
  generalize takeS s 8 = o at *
  obtain ⟨out, s'⟩ := o
  simp only at hle
  go_enter Try.func25, Try.ntmps25
  go_wp2_with (go_at_call 35; refine H.out.mono ?_; rintro e w1 ⟨A, n, c, rfl, hn, hd, hr, ho⟩; obtain rfl := hn.out)
  go_loop [3, 5] (fun v i => ∃ j : Nat, j ≤ out.length ∧ i = .int .i64 ((j : Int) - 1) ∧ v = .int .u64 (num (out.drop j))) (fun _ i => (intOf i + 1).toNat)
  case atStart => exact ⟨out.length, Nat.le_refl _, rfl, by simp [num]⟩
  case round =>
    obtain ⟨j, hj, rfl, rfl⟩ := hrel
    cases j with
    | zero =>
      go_wp2
      go_ret
      exact ⟨by simp, hr, ho⟩
    | succ j =>
      have hlt : j < out.length := by omega
      obtain ⟨ad, rfl, hc⟩ := hd.at_ (k := j) (by simpa using hlt)
      simp only [List.getElem_map, bv] at hc
      have HE := Lib.hid (num_shl out j hlt hle)
      have ej : ((j + 1 : Nat) : Int) - 1 = (j : Int) := by omega
      rw [ej]
      clear ej
      go_wp2
      go_round
      case rel => exact ⟨j, by omega, rfl, by rw [HE.out]⟩
      case measure => simp [intOf]

attribute [local go_sem] Vc.known_tmp Vc.known_const Vc.known_func Vc.known_global Vc.lk Vc.okUpon Vc.Fact.holds

theorem xText'_any (g : Nat) (s : Rs) (w : World) (hs : RefAt w g s) :
    Calls Try.prog 27 #[.pointer (some ⟨g, 0, none⟩)] w (RefStr w g (textS s)) := by
  have hl := takeS_len s 2
  have hlt := num_small s 2 (by omega)
  have H := Lib.hid (show Calls Try.prog 35 #[.pointer (some ⟨g, 0, none⟩), .int .i64 2] w (RefOut w g (takeS s 2)) from xtake_any g s 2 w hs (by omega))
  have he : (takeS s 2).1 = [] → takeS (takeS s 2).2 0 = ([], (takeS s 2).2) := by
    intro _
    generalize (takeS s 2).2 = r
    obtain ⟨l, e⟩ := r
    unfold takeS
    by_cases h : e = 0
    · subst h; simp
    · simp [h]
  have H2 : ∀ W, RefAt W g (takeS s 2).2 → Calls Try.prog 35 #[.pointer (some ⟨g, 0, none⟩), .int .i64 (num (takeS s 2).1)] W (RefOut W g (textS s)) :=
    fun W h => xtake_any g _ _ W h (by omega)
  replace H2 := Lib.hid H2
  have ht : textS s = takeS (takeS s 2).2 (num (takeS s 2).1) := rfl
  have HT := Lib.hid ht
  clear ht
  generalize textS s = o2 at *
  generalize takeS s 2 = o at *
  obtain ⟨out, s'⟩ := o
  simp only at hl hlt he
  rcases hl with rfl | hl
  · have hx : o2 = ([], s') := by
      have h1 := HT.out
      simp only [num] at h1
      rw [h1]
      exact he rfl
    subst hx
    clear he
    go_enter Try.func27, Try.ntmps27
    go_wp2_with (go_at_call 35; refine H.out.mono ?_; rintro e w1 ⟨A, n, c, rfl, hn, hd, hr, ho⟩; obtain rfl := hn.out)
    go_ret
    exact ⟨rfl, hr, ho⟩
  · clear he
    obtain ⟨b0, b1, rfl⟩ := two_of_len out hl
    clear hl
    · 
      have hb0 := b0.toNat_lt
      have hb1 := b1.toNat_lt
      go_enter Try.func27, Try.ntmps27
      go_wp2_with (go_at_call 35; (with_reducible refine H.out.mono ?_); rintro e w1 ⟨A, n, c, rfl, hn, hd, hr, ho⟩; obtain rfl := hn.out; obtain ⟨ad, rfl, _⟩ := hd.at_ (k := 0) (by simp))
      have hcell : ∀ W, Rd W (some ad) ([b0, b1].map bv) → W.cell? ad = some (.int .u8 b0.toNat) ∧ W.cell? ⟨ad.block, ad.off + 1, none⟩ = some (.int .u8 b1.toNat) := by
        intro W h
        obtain ⟨a1, e1, h1⟩ := h.at_ (k := 0) (by simp)
        obtain ⟨a2, e2, h2⟩ := h.at_ (k := 1) (by simp)
        injection e1 with e1
        injection e2 with e2
        subst e1
        subst e2
        exact ⟨by simpa [Addr.add, bv] using h1, by simpa [bv, Addr.add] using h2⟩
      refine Vc.wp_region_facts ⟨fun w w' => w = w', fun _ w w' => w.grownBy w' (some g),
        fun k W => Rd W (some ad) ([b0, b1].map bv) ∧ w1.grownBy W (some g) ∧ (k = 0 → RefAt W g s') ∧ (k = 1 → RefAt W g o2.2), [11]⟩ (by kernel_rfl) (by kernel_rfl) ?_ ?_ ?_
      · rintro k W W' rfl h; exact h
      · exact ⟨hd, only_of_gr (Gr.draw _) _, fun _ => hr.drewN 1, fun h => by cases h⟩
      · repeat
          refine Vc.Walk.pure (v := ?_) (fun _ => rfl) rfl (.no rfl) rfl rfl ?_ ?_
          rotate_left
          · intro _ W hI
            obtain ⟨h1, _⟩ := hI.g
            obtain ⟨hc0, hc1⟩ := hcell W h1
            clear h1
            go_simp
            exact rfl
        refine Vc.Walk.call (.fits fun _ v W => ∃ A n c, v = .slice A n c ∧ Hid (o2.1.length = n) ∧ RdN W g A (o2.1.map bv)) ?_ (.no rfl) rfl rfl ?_ ?_
        · refine ⟨?_, ?_⟩
          · rintro _ v W W' _ rfl h
            exact h
          · rintro _ v W W' _ hR _ ⟨A2, n2, c2, rfl, hn2, hd2⟩
            exact ⟨A2, n2, c2, rfl, hn2, hd2.only hR⟩
        · intro k W hI
          obtain rfl := hI.eq 0 rfl
          obtain ⟨h1, h2, h3, _⟩ := hI.g
          clear hI
          have e1 : IntKind.i64.wrap (IntKind.i64.wrap (b0.toNat : Int) + IntKind.i64.wrap (256 * IntKind.i64.wrap (b1.toNat : Int))) = (num [b0, b1] : Int) := by
            simp only [IntKind.wrap_i64, num]
            omega
          go_simp
          refine (H2.out _ (h3 rfl)).mono ?_
          rintro e W' ⟨A2, n2, c2, rfl, hn2, hd2, hr2, ho2⟩
          exact ⟨_, rfl, ⟨A2, n2, ⟨c2, rfl⟩, hn2, hr2.apart hd2⟩, ho2, ((h3 rfl).apart h1 |>.only ho2).rd, only_trans h2 ho2, fun h => (by cases h), fun _ => hr2⟩
        refine Vc.Walk.any (.is (.string ⟨o2.1.toArray⟩)) trivial (.no rfl) ?_ ?_
        · intro ρ k W hI hf
          obtain ⟨⟨A2, n2, c2, hρ, hn2, hd2⟩, _⟩ := hf
          have hcv := run_str (P := Try.prog) hd2.rd 22 9 5 n2 c2 hn2.out.symm Try.underlying22 Try.underlying5 Try.underlying9
          have hI2 := Lib.hid hI
          clear hI
          go_simp
          exact (rfl : W = W)
        repeat
          refine Vc.Walk.pure (v := ?_) (fun _ => rfl) rfl (.no rfl) rfl rfl ?_ ?_
          rotate_left
          · intro _ W hI
            clear hI
            go_simp
            exact rfl
        intro W hG
        obtain ⟨_, hg1, _, hr2⟩ := hG
        have hr2 := hr2 rfl
        simp only [List.reverse_cons, List.reverse_nil, List.nil_append, List.cons_append, Vc.finish, Act.put]
        intro u _
        go_wp2_with fail
        go_ret
        exact ⟨rfl, hr2, only_trans ho hg1⟩

theorem xFail_any (g : Nat) (s : Rs) (k : Int) (w : World) (hs : RefAt w g s) :
    Calls Try.prog 29 #[.pointer (some ⟨g, 0, none⟩), .int .i64 k] w fun e w' => e = .returned (.tuple #[]) ∧ RefAt w' g (failS s k) ∧ w.grownBy w' (some g) := by
  obtain ⟨bs, er⟩ := s
  have hs' := hs
  obtain ⟨A, c, L, p, hr, hd, hp, hbs, hlc, hcm⟩ := hs'
  simp only at hr hbs
  have c2 : w.cell? ⟨g, 2, none⟩ = some (.int .i64 er) := by rw [hr.cell]; rfl
  have f2 := hr.frozen 2
  have ho := only_set w g 2 (.int .i64 k)
  have hfin : RefAt (w.setCell ⟨g, 2, none⟩ (.int .i64 k)) g (bs, k) := ⟨A, c, L, p, hr.set 2 _, hd.keep hr (ref_cells _ _ _ _ _) ho, hp, hbs, hlc, hcm⟩
  have HF := Lib.hid hfin
  have HO := Lib.hid ho
  clear hfin ho hbs
  unfold failS
  by_cases he : er = 0
  · subst he
    go_enter Try.func29, Try.ntmps29
    go_wp2
    refine bodyPost_end (results_none rfl _ _ _) rfl ⟨rfl, ?_, ?_⟩
    · simpa using HF.out
    · exact HO.out
  · have hne : (er == 0) = false := by simp [he]
    go_enter Try.func29, Try.ntmps29
    go_wp2
    refine bodyPost_end (results_none rfl _ _ _) rfl ⟨rfl, ?_, only_refl _ _⟩
    simpa [he] using hs

theorem xEnd_any (g : Nat) (s : Rs) (w : World) (hs : RefAt w g s) :
    Calls Try.prog 30 #[.pointer (some ⟨g, 0, none⟩)] w fun e w' => e = .returned (.int .i64 (endS s)) ∧ ∃ n, w' = w.drewN n := by
  obtain ⟨bs, er⟩ := s
  obtain ⟨A, c, L, p, hr, hd, hp, hbs, hlc, hcm⟩ := hs
  simp only at hr hbs
  have c0 : w.cell? ⟨g, 0, none⟩ = some (.slice A L.length c) := by rw [hr.cell]; rfl
  have c1 : w.cell? ⟨g, 1, none⟩ = some (.int .i64 p) := by rw [hr.cell]; rfl
  have c2 : w.cell? ⟨g, 2, none⟩ = some (.int .i64 er) := by rw [hr.cell]; rfl
  have hbl : bs.length = L.length - p := by rw [hbs]; simp
  have HS := Lib.hid hbs
  clear hbs
  unfold endS
  by_cases he : er = 0
  · subst he
    by_cases hn : 0 < bs.length
    · have ht : decide (p < L.length) = true := by simp; omega
      rw [if_pos ⟨rfl, hn⟩]
      have HB := Lib.hid hbl
      clear hbl
      go_enter Try.func30, Try.ntmps30
      go_wp2_with fail
      go_quiet (fail)
      go_wp2_with fail
      go_ret
      exact ⟨rfl, _, rfl⟩
    · have ht : decide (p < L.length) = false := by simp; omega
      rw [if_neg (fun h => hn h.2)]
      have HB := Lib.hid hbl
      clear hbl
      go_enter Try.func30, Try.ntmps30
      go_wp2_with fail
      go_quiet (fail)
      go_wp2_with fail
      go_ret
      exact ⟨rfl, _, rfl⟩
  · have hne : (er == 0) = false := by simp [he]
    rw [if_neg (fun h => he h.1)]
    have HB := Lib.hid hbl
    clear hbl
    go_enter Try.func30, Try.ntmps30
    go_wp2_with fail
    go_quiet (fail)
    go_wp2_with fail
    go_ret
    exact ⟨rfl, _, rfl⟩
end Go.Proofs.Ytnhokgnfkljfhaa
