/- Package names: sets as sorted lists: 'of'. -/
import Derived.Test.YtbjkfllghkcgcaaApp
import Derived.Test.YtbjkfllghkcgcaaVc
import Derived.Test.YtbjkfllghkcgcaaShelf
import Derived.Sort.OwnSorted
import Derived.Sort.Grow
import Derived.Lib.OwnBridge
import Derived.Handy
set_option linter.unusedVariables false
set_option linter.unusedSimpArgs false
namespace Go.Proofs.Ytbjkfllghkcgcaa
open Go.RowKit Go.Sort

abbrev Str := List UInt8
/-- 'names.of'. -/
def ofL (L : List Str) : List Str := Lib.compact (L.mergeSort fun x y => decide (x ≤ y))
theorem ofL_length_le (L : List Str) : (ofL L).length ≤ L.length := by
  have := Lib.compact_length_le (L.mergeSort fun x y => decide (x ≤ y))
  rw [List.length_mergeSort] at this
  exact this

theorem own_of_ownsRow {w : World} {B : Nat} {e : TypeId} {k n : Nat} {v : Value} {xs : List Value} (h : w.ownsRow B e k v n xs) : ∃ A c, v = .slice A n c ∧ Own w B e k A n c xs := by
  rcases h.2 with ⟨rfl, rfl⟩ | ⟨g, cap, cur, rfl, hb, hg, hn, hm, hs, ht⟩
  · exact ⟨none, 0, rfl, h.1, .inl ⟨rfl, rfl, rfl⟩⟩
  · refine ⟨_, cap, rfl, h.1, .inr ⟨g, cur.toList.drop (n * k), rfl, hb, ?_, hn, hm, ?_⟩⟩
    · unfold Row
      rw [← ht, List.take_append_drop]
      simpa using hg
    · rw [← ht, List.take_append_drop]
      simpa using hs
theorem ownsRow_of_own {w : World} {B : Nat} {e : TypeId} {k n c : Nat} {A : Option Addr} {xs : List Value} (h : Own w B e k A n c xs) : w.ownsRow B e k (.slice A n c) n xs := by
  refine ⟨h.1, ?_⟩
  rcases h.2 with ⟨rfl, rfl, rfl⟩ | ⟨g, rest, rfl, hb, hr, hn, hm, hl⟩
  · exact .inl ⟨rfl, rfl⟩
  · refine .inr ⟨g, c, _, rfl, hb, hr, hn, hm, by simpa using hl, ?_⟩
    rw [← h.1]
    simp

/-- A slice of strings in memory, cell by cell, as the library's contracts ask it. -/
theorem Rd.plain {w : World} {A : Option Addr} {L : List Str} (h : Rd w A (L.map encStr)) (h0 : 0 < L.length) : ∃ b off, A = some ⟨b, off, none⟩ ∧ ∀ j, j < L.length → w.cell? ⟨b, off + j, none⟩ = some (encStr (L.getD j [])) := by
  obtain ⟨ad, rfl, hc⟩ := h 0 _ (List.getElem?_eq_getElem (by simpa using h0))
  have hs : ad.spot = none := by
    unfold Addr.add at hc
    simp only [if_pos] at hc
    unfold World.cell? at hc
    cases hp : ad.spot with
    | none => rfl
    | some s =>
      rw [hp] at hc
      split at hc <;> simp at hc
  obtain ⟨b, off, sp⟩ := ad
  simp only at hs
  subst hs
  refine ⟨b, off, rfl, fun j hj => ?_⟩
  obtain ⟨ad', e, hc'⟩ := h j _ (List.getElem?_eq_getElem (by simpa using hj))
  injection e with e
  subst e
  rw [add_plain' ] at hc'
  rw [hc']
  simp [List.getD_eq_getElem?_getD, List.getElem?_eq_getElem hj]

def ba (l : Str) : ByteArray := ⟨l.toArray⟩
theorem ba_toList (l : Str) : (ba l).data.toList = l := rfl
theorem map_ba (L : List Str) : (L.map ba).map Value.string = L.map encStr := by simp [ba]
theorem getD_ba {L : List Str} {j : Nat} (h : j < L.length) : (L.map ba).getD j ByteArray.empty = ba (L.getD j []) := by
  simp [List.getD_eq_getElem?_getD, List.getElem?_map, List.getElem?_eq_getElem h]
theorem Rd.none_nil {w : World} {L : List Str} (h : Rd w none (L.map encStr)) : L = [] := by
  cases L with
  | nil => rfl
  | cons x l =>
    obtain ⟨ad, e, _⟩ := h 0 _ rfl
    cases e

/-- slices.Clone at []string. -/
theorem clone_any (A : Option Addr) (n c : Nat) (L : List Str) (w : World) (hn : Hid (L.length = n)) (hr : Rd w A (L.map encStr)) (hl : n ≤ 1000000) :
    Calls Try.prog 44 #[.slice A n c] w fun e w' => ∃ A' c', e = .returned (.slice A' n c') ∧ Own w' w.heap.size 9 1 A' n c' (L.map encStr) ∧ (A = none ∧ A' = none ∨ A ≠ none ∧ A' ≠ none) ∧ Gr w w' := by
  have hn' := hn.out
  cases A with
  | none =>
    obtain rfl := hr.none_nil
    obtain rfl : 0 = n := hn'
    exact (Try.slices_Clone_string_nil 0 c w).mono fun e w' ⟨he, hw⟩ => by
      subst hw
      exact ⟨none, 0, he, Own.nil _ _ _ _, .inl ⟨rfl, rfl⟩, Gr.rfl' _⟩
  | some ad =>
    by_cases h0 : 0 < n
    · obtain ⟨b, off, e, hc⟩ := hr.plain (by omega)
      injection e with e
      subst e
      have hc' : ∀ j, j < (L.map ba).length → w.cell? ⟨b, off + j, none⟩ = some (.string ((L.map ba).getD j ByteArray.empty)) := by
        intro j hj
        rw [List.length_map] at hj
        rw [hc j hj, getD_ba hj]
        rfl
      refine (Try.slices_Clone_string b off n c (L.map ba) w (by simp; omega) (by omega) hc').mono fun e w' ⟨v', he, hown, hnn, hbel⟩ => ?_
      rw [List.take_of_length_le (by simp; omega), map_ba] at hown
      obtain ⟨A', c', rfl, ho⟩ := own_of_ownsRow hown
      refine ⟨A', c', he, ho, .inr ⟨by simp, ?_⟩, hbel⟩
      rintro rfl
      rcases ho.2 with ⟨_, h1, _⟩ | ⟨_, _, h1, _⟩
      · omega
      · cases h1
    · obtain rfl : n = 0 := by omega
      have : L = [] := List.eq_nil_of_length_eq_zero hn'
      subst this
      refine (Try.slices_Clone_string_zero ad c w).mono fun e w' ⟨v', he, hown, hnn, hbel⟩ => ?_
      obtain ⟨A', c', rfl, ho⟩ := own_of_ownsRow hown
      refine ⟨A', c', he, ho, .inr ⟨by simp, ?_⟩, hbel⟩
      rintro rfl
      rcases ho.2 with ⟨_, _, h1⟩ | ⟨_, _, h1, _⟩
      · subst h1
        exact hnn rfl
      · cases h1

theorem sort_own (B : Nat) (A : Option Addr) (n c : Nat) (L : List Str) (w : World) (ho : Own w B 9 1 A n c (L.map encStr)) (hl : n ≤ 1000000) :
    Calls Try.prog 45 #[.slice A n c] w fun e w' => e = .returned (.tuple #[]) ∧ Own w' B 9 1 A n c ((L.mergeSort fun x y => decide (x ≤ y)).map encStr) ∧ w.grownBy w' (blkOf A) := by
  have hn : L.length = n := by simpa using ho.1
  rcases ho.2 with ⟨rfl, rfl, rfl⟩ | ⟨g, rest, rfl, hb, hr, h1, h2, h3⟩
  · refine (Try.slices_Sort_string_none none 0 w).mono fun e w' ⟨he, hw⟩ => ?_
    subst hw
    have : L = [] := List.eq_nil_of_length_eq_zero hn
    subst this
    exact ⟨he, by simpa using ho, only_refl _ _⟩
  · obtain ⟨g', cap, hv, hbg, hgl, hnc, hcm, hlen, hH⟩ := Lib.holds_of_ownsRow (enc := encStr) (zs := L) (ownsRow_of_own ho) (by intro h; cases h)
    cases hv
    subst hn
    refine (Try.slices_Sort_string g 0 c L w hH hgl (by omega)).mono fun e w' ⟨he, nn, os, hw⟩ => ?_
    subst hw
    have hs := ownsRow_sorted (n := nn) (os := os) (ts := L.mergeSort fun x y => decide (x ≤ y)) (ss := L) (List.length_mergeSort L) hb hr h1 h2 (by simpa using h3)
    obtain ⟨A', c', e1, ho'⟩ := own_of_ownsRow hs
    cases e1
    exact ⟨he, ho', grownBy_sorted _⟩
theorem compact_own (B : Nat) (A : Option Addr) (n c : Nat) (L : List Str) (w : World) (ho : Own w B 9 1 A n c (L.map encStr)) (hl : n ≤ 1000000) :
    Calls Try.prog 46 #[.slice A n c] w fun e w' => ∃ n', e = .returned (.slice A n' c) ∧ Own w' B 9 1 A n' c ((Lib.compact L).map encStr) ∧ n' ≤ n ∧ w.grownBy w' (blkOf A) := by
  have hn : L.length = n := by simpa using ho.1
  rcases ho.2 with ⟨rfl, rfl, rfl⟩ | ⟨g, rest, rfl, hb, hr, h1, h2, h3⟩
  · refine (Try.slices_Compact_string_empty none 0 w).mono fun e w' ⟨he, hw⟩ => ?_
    subst hw
    have : L = [] := List.eq_nil_of_length_eq_zero hn
    subst this
    exact ⟨0, he, by simpa [Lib.compact, Lib.compactUpTo] using ho, Nat.le_refl _, only_refl _ _⟩
  · obtain ⟨g', cap, hv, hbg, hgl, hnc, hcm, hlen, hH⟩ := Lib.holds_of_ownsRow (enc := encStr) (zs := L) (ownsRow_of_own ho) (by intro h; cases h)
    cases hv
    subst hn
    have hle := Lib.compact_length_le L
    refine (Try.slices_Compact_string g 0 c L w hH (by omega) h1).mono fun e w' ⟨he, q, hw⟩ => ?_
    subst hw
    have hc := Lib.ownsRow_putRow (q := q) (k := (Lib.compact L).length) (ys := Lib.compact L ++ List.replicate (L.length - (Lib.compact L).length) []) (ownsRow_of_own ho) (by simp; omega) (by omega)
    rw [List.take_left] at hc
    obtain ⟨A', c', e1, ho'⟩ := own_of_ownsRow hc
    cases e1
    exact ⟨_, he, ho', hle, by have := grownBy_sorted (w := w) (g := g) (n := q) (os := #[]) (Lib.compact L ++ List.replicate (L.length - (Lib.compact L).length) []).toArray; rw [grow_empty] at this; exact this⟩

theorem Row.keepOwn {w w' : World} {g : Nat} {t : TypeId} {xs : List Value} {A : Option Addr} (h : Row w g t xs) (hg : w.grownBy w' (blkOf A)) (hne : ∀ g', blkOf A = some g' → g ≠ g') : Row w' g t xs :=
  (hg.block g h.lt (fun e => hne g e.symm rfl)).trans h
theorem Gr.only {w w1 w2 : World} {g : Nat} (h : Gr w w1) (ho : w1.grownBy w2 (some g)) (hg : w.heap.size ≤ g) : Gr w w2 :=
  Below.grown h ho h.size (fun k hk => by cases hk; exact hg)
/-- A set: the struct of one slice. -/
def SetB (w : World) (L : List Str) (e : Ending) (w' : World) : Prop :=
  ∃ A n c, e = .returned (.agg #[.slice A n c]) ∧ Hid (L.length = n) ∧ Rd w' A (L.map encStr) ∧ n ≤ c ∧ c ≤ maxLen ∧ Gr w w'

theorem of_any (A : Option Addr) (n c : Nat) (L : List Str) (w : World) (hn : Hid (L.length = n)) (hr : Rd w A (L.map encStr)) (hl : n ≤ 1000000) :
    Calls Try.prog 35 #[.slice A n c] w (SetB w (ofL L)) := by
  have HC := Lib.hid (fun W h => clone_any A n c L W hn h hl)
  have hn' := hn.out
  have hle := ofL_length_le L
  unfold ofL at hle ⊢
  go_enter Try.func35, Try.ntmps35
  go_wp2_with (first
    | (go_at_call 44; (with_reducible refine (HC.out _ (hr.gr (Gr.alloc1 _ _))).mono ?_); rintro e w1 ⟨A1, c1, rfl, ho1, hA1, hg1⟩
       have HS := Lib.hid (sort_own _ A1 n c1 L w1 ho1 hl)
       have X1 := Lib.hid (And.intro ho1 hg1)
       clear hA1 hg1 HC ho1)
    | (go_at_call 45; (with_reducible refine HS.out.mono ?_); rintro e w2 ⟨rfl, ho2, hg2⟩
       have HK := Lib.hid (compact_own _ A1 n c1 _ w2 ho2 hl)
       have X2 := Lib.hid (And.intro ho2 hg2)
       clear HS hg2 ho2)
    | (go_at_call 46; (with_reducible refine HK.out.mono ?_); rintro e w3 ⟨n3, rfl, ho3, hn3, hg3⟩
       have HC3 := Lib.hid (clone_any A1 n3 c1 _ w3 (Lib.hid (by simpa using ho3.1)) ho3.rd (by omega))
       have X3 := Lib.hid (And.intro ho3 hg3)
       clear HK hg3 ho3)
    | (go_at_call 44; (with_reducible refine HC3.out.mono ?_); rintro e w4 ⟨A4, c4, rfl, ho4, hA4, hg4⟩
       have hz1 := X1.out.2.size
       have hz4 := hg4.size
       have ha : w.heap.size < (w.alloc (.cells #[.slice none 0 0] 56)).heap.size := (Row.new w 56 [.slice none 0 0]).lt
       have hrow := (Row.new w 56 [.slice none 0 0]).gr X1.out.2
       have hblk : ∀ g, blkOf A1 = some g → w.heap.size < g := fun g hg => Nat.lt_of_lt_of_le ha (X1.out.1.blk g hg).1
       have hrow := hrow.keepOwn X2.out.2 (fun g hg => Nat.ne_of_lt (hblk g hg))
       have hrow := hrow.keepOwn X3.out.2 (fun g hg => Nat.ne_of_lt (hblk g hg))
       have hrow := hrow.gr hg4
       have hcell : w4.cell? ⟨w.heap.size, 0, none⟩ = some (.slice none 0 0) := hrow.cell 0
       have hfz : w4.frozen? ⟨w.heap.size, 0, none⟩ = false := hrow.frozen 0
       have hG : Gr w w4 := by
         have g1 : Gr w w1 := (Gr.alloc1 w _).trans' X1.out.2
         have g2 : Gr w w2 := g1.grown X2.out.2 g1.size (fun g hg => Nat.le_of_lt (hblk g hg))
         have g3 : Gr w w3 := g2.grown X3.out.2 g2.size (fun g hg => Nat.le_of_lt (hblk g hg))
         exact g3.trans' hg4
       have ho5 := ho4.keep (only_set w4 w.heap.size 0 (.slice A4 n3 c4)) (fun g hg h => by
         have h1 := (ho4.blk g hg).1
         injection h with h
         have := hG.size
         have h2 := X3.out.2.size
         have h3 := X2.out.2.size
         omega)
       have X4 := Lib.hid (And.intro ho5 (hG.only (only_set w4 w.heap.size 0 (.slice A4 n3 c4)) (Nat.le_refl _)))
       have hres : (w4.setCell ⟨w.heap.size, 0, none⟩ (.slice A4 n3 c4)).cell? ⟨w.heap.size, 0, none⟩ = some (.slice A4 n3 c4) := (hrow.set 0 (.slice A4 n3 c4)).cell 0
       clear hA4 hg4 HC3 ho4 hG hrow hblk ha hz1 hz4 ho5))
  (try simp only [Exit.inBlock, Exit.then])
  refine bodyPost_ret (v := ?_) ?_ rfl ?_
  rotate_left
  · simp [results, Try.results35, go_sem, hres]
    (try rfl)
  exact ⟨A4, n3, c4, rfl, Lib.hid (by simpa using X4.out.1.1), X4.out.1.rd, X4.out.1.le.1, X4.out.1.le.2, X4.out.2⟩
end Go.Proofs.Ytbjkfllghkcgcaa
