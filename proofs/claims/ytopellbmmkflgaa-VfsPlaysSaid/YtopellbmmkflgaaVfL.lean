/- The library at this program: slices.Clone, slices.Sorted at maps.Keys, maps.Clone. -/
import Derived.Test.YtopellbmmkflgaaVfW
import Derived.Test.YtopellbmmkflgaaShelf
import Derived.Sort.OwnSorted
import Derived.Sort.Grow
import Derived.Lib.OwnBridge
import Derived.Handy
import Derived.Shelf.AbstractIn
set_option linter.unusedVariables false
set_option linter.unusedSimpArgs false
namespace Go.Proofs.Ytopellbmmkflgaa
open Go.RowKit Go.Maps Go.Sort Go.Shelf

theorem own_of_ownsRow {w : World} {B : Nat} {e : TypeId} {k n : Nat} {v : Value} {xs : List Value} (h : w.ownsRow B e k v n xs) : ∃ A c, v = .slice A n c ∧ Own w B e k A n c xs := by
  rcases h.2 with ⟨rfl, rfl⟩ | ⟨g, cap, cur, rfl, hb, hg, hn, hm, hs, ht⟩
  · exact ⟨none, 0, rfl, h.1, .inl ⟨rfl, rfl, rfl⟩⟩
  · refine ⟨_, cap, rfl, h.1, .inr ⟨g, cur.toList.drop (n * k), rfl, hb, ?_, hn, hm, ?_⟩⟩
    · unfold Row
      rw [← ht, List.take_append_drop]
      simpa using hg
    · rw [← ht, List.take_append_drop]
      simpa using hs
theorem ownsRow_of_own {w : World} {B : Nat} {e : TypeId} {k n c : Nat} {A : Option Addr} {xs : List Value} (h : Own w B e k A n c xs) : w.ownsRow B e k (.slice A n c) n xs := by
  refine ⟨h.1, ?_⟩
  rcases h.2 with ⟨rfl, rfl, rfl⟩ | ⟨g, rest, rfl, hb, hr, hn, hm, hl⟩
  · exact .inl ⟨rfl, rfl⟩
  · refine .inr ⟨g, c, _, rfl, hb, hr, hn, hm, by simpa using hl, ?_⟩
    rw [← h.1]
    simp

/-- A slice of strings in memory, cell by cell, as the library's contracts ask it. -/
theorem Rd.plain {w : World} {A : Option Addr} {L : List Str} (h : Rd w A (L.map encStr)) (h0 : 0 < L.length) : ∃ b off, A = some ⟨b, off, none⟩ ∧ ∀ j, j < L.length → w.cell? ⟨b, off + j, none⟩ = some (encStr (L.getD j [])) := by
  obtain ⟨ad, rfl, hc⟩ := h 0 _ (List.getElem?_eq_getElem (by simpa using h0))
  have hs : ad.spot = none := by
    unfold Addr.add at hc
    simp only [if_pos] at hc
    unfold World.cell? at hc
    cases hp : ad.spot with
    | none => rfl
    | some s =>
      rw [hp] at hc
      split at hc <;> simp at hc
  obtain ⟨b, off, sp⟩ := ad
  simp only at hs
  subst hs
  refine ⟨b, off, rfl, fun j hj => ?_⟩
  obtain ⟨ad', e, hc'⟩ := h j _ (List.getElem?_eq_getElem (by simpa using hj))
  injection e with e
  subst e
  rw [add_plain' ] at hc'
  rw [hc']
  simp [List.getD_eq_getElem?_getD, List.getElem?_eq_getElem hj]

def ba (l : Str) : ByteArray := ⟨l.toArray⟩
theorem ba_toList (l : Str) : (ba l).data.toList = l := rfl
theorem map_ba (L : List Str) : (L.map ba).map Value.string = L.map encStr := by simp [ba]
theorem getD_ba {L : List Str} {j : Nat} (h : j < L.length) : (L.map ba).getD j ByteArray.empty = ba (L.getD j []) := by
  simp [List.getD_eq_getElem?_getD, List.getElem?_map, List.getElem?_eq_getElem h]
theorem Rd.none_nil {w : World} {L : List Str} (h : Rd w none (L.map encStr)) : L = [] := by
  cases L with
  | nil => rfl
  | cons x l =>
    obtain ⟨ad, e, _⟩ := h 0 _ rfl
    cases e

/-- slices.Clone at []string. -/
theorem clone_any (A : Option Addr) (n c : Nat) (L : List Str) (w : World) (hn : Hid (L.length = n)) (hr : Rd w A (L.map encStr)) (hl : n ≤ 1000000) :
    Calls Try.prog 30 #[.slice A n c] w fun e w' => ∃ A' c', e = .returned (.slice A' n c') ∧ Own w' w.heap.size 9 1 A' n c' (L.map encStr) ∧ (A = none ∧ A' = none ∨ A ≠ none ∧ A' ≠ none) ∧ Gr w w' := by
  have hn' := hn.out
  cases A with
  | none =>
    obtain rfl := hr.none_nil
    obtain rfl : 0 = n := hn'
    exact (Try.slices_Clone_string_nil 0 c w).mono fun e w' ⟨he, hw⟩ => by
      subst hw
      exact ⟨none, 0, he, Own.nil _ _ _ _, .inl ⟨rfl, rfl⟩, Gr.rfl' _⟩
  | some ad =>
    by_cases h0 : 0 < n
    · obtain ⟨b, off, e, hc⟩ := hr.plain (by omega)
      injection e with e
      subst e
      have hc' : ∀ j, j < (L.map ba).length → w.cell? ⟨b, off + j, none⟩ = some (.string ((L.map ba).getD j ByteArray.empty)) := by
        intro j hj
        rw [List.length_map] at hj
        rw [hc j hj, getD_ba hj]
        rfl
      refine (Try.slices_Clone_string b off n c (L.map ba) w (by simp; omega) (by omega) hc').mono fun e w' ⟨v', he, hown, hnn, hbel⟩ => ?_
      rw [List.take_of_length_le (by simp; omega), map_ba] at hown
      obtain ⟨A', c', rfl, ho⟩ := own_of_ownsRow hown
      refine ⟨A', c', he, ho, .inr ⟨by simp, ?_⟩, hbel⟩
      rintro rfl
      rcases ho.2 with ⟨_, h1, _⟩ | ⟨_, _, h1, _⟩
      · omega
      · cases h1
    · obtain rfl : n = 0 := by omega
      have : L = [] := List.eq_nil_of_length_eq_zero hn'
      subst this
      refine (Try.slices_Clone_string_zero ad c w).mono fun e w' ⟨v', he, hown, hnn, hbel⟩ => ?_
      obtain ⟨A', c', rfl, ho⟩ := own_of_ownsRow hown
      refine ⟨A', c', he, ho, .inr ⟨by simp, ?_⟩, hbel⟩
      rintro rfl
      rcases ho.2 with ⟨_, _, h1⟩ | ⟨_, _, h1, _⟩
      · subst h1
        exact hnn rfl
      · cases h1


theorem sorts_any (m : Nat) : AnyZ.SortsIn Try.prog Try.sorted_ren Fence.wide m :=
  ⟨fun blk off cap ss W hH hblk hsz => callsIn_wide.2 (AnyM.slices_Sort_string Try.sort blk off cap ss W hH hblk hsz),
   fun p cap W => callsIn_wide.2 (AnyM.slices_Sort_string_none Try.sort p cap W)⟩

theorem keys_any (mb : Option Nat) (W : World) : CallsIn Fence.wide 5 Try.prog 32 #[.map mb] W fun e w' => e = .returned (.func (.func 47) #[] #[.pointer (some ⟨W.heap.size, 0, none⟩)]) ∧ w' = W.alloc (.cells #[.map mb] 56) :=
  AnyZ.keys_in Try.keys Fence.wide 5 trivial rfl mb W

set_option maxHeartbeats 1000000 in
theorem sorted_any {H : Type} (b nn : Nat) (D0 : DataW H) (R : Value → Option (DataW H × List MemPlace)) (w : World) (hown : w.ownsMap Try.prog 9 R b nn D0) (hmax : Maps.size D0 ≤ maxLen) (hbytes : Maps.size D0 * 16 ≤ 140737488355328) :
    CallsIn Fence.wide 5 Try.prog 31 #[.func (.func 47) #[] #[.pointer (some ⟨w.heap.size, 0, none⟩)]] (w.alloc (.cells #[.map (some b)] 56)) fun e w' => ∃ (v : Value) (ss : List (List UInt8)), e = .returned v ∧ ss.Perm (strKeys D0) ∧
      w'.ownsRow (w.alloc (.cells #[.map (some b)] 56)).heap.size 9 1 v ss.length ((ss.mergeSort (fun x y => decide (x ≤ y))).map encStr) ∧ (v = .slice none 0 0 ↔ ss = []) ∧ Below (w.alloc (.cells #[.map (some b)] 56)).heap.size (w.alloc (.cells #[.map (some b)] 56)) w' := by
  have hbl := hown.lt
  have hseq : SeqGives Fence.wide 2 Try.prog 47 #[.pointer (some ⟨w.heap.size, 0, none⟩)] encStr (fun ss => ss.Perm (strKeys D0)) (Maps.size D0) (w.alloc (.cells #[.map (some b)] 56)) :=
    AnyZ.keys_gives (ρ := Try.keys_ren) { Try.keys with } Fence.wide _ trivial rfl (by omega) w.heap.size b nn D0 _ (by simp) (by simp) (by
      obtain ⟨es, clock, hb, Ft, hs, hD⟩ := hown
      exact ⟨es, clock, (Below.heap_alloc _ _ b hbl).trans hb, Ft, hs, hD⟩)
  exact AnyZ.sorted_in Try.sorted Fence.wide 5 trivial trivial trivial trivial rfl (by omega) (sorts_any _) (enters_of Try.func46 (by kernel_rfl) rfl) 47 #[.pointer (some ⟨w.heap.size, 0, none⟩)] trivial (enters_of Try.func47 (by kernel_rfl) rfl) _ _ hmax hbytes _ hseq


theorem info_u8 : (Try.prog.info? 5).map (fun i => (i.zero, i.size, i.bytes)) = some (some (.int .u8 0), 1, 1) := by kernel_rfl
/-- slices.Clone at []byte. -/
theorem cloneB_any (A : Option Addr) (n c : Nat) (b : Str) (w : World) (hn : b.length = n) (hr : Rd w A (b.map bv)) (hl : n ≤ 100000000) :
    Calls Try.prog 29 #[.slice A n c] w fun e w' => ∃ A' c', e = .returned (.slice A' n c') ∧ Own w' w.heap.size 5 1 A' n c' (b.map bv) ∧ Gr w w' := by
  have q : ∀ (w : World) (a : Option Addr) (n c n' c' : Nat), (binOp .eql 31 (.slice a n c) (.slice none n' c')).run Try.prog w = .ok (.bool a.isNone) w := fun w a n c n' c' => Lib.run_eql_slice_nil w _ _ a n c n' c' Try.underlying31
  obtain ⟨i0, hi, hz0, hz1, hz2⟩ := info_parts info_u8
  cases A with
  | none =>
    have hb : b = [] := by
      cases b with
      | nil => rfl
      | cons x r =>
        obtain ⟨ad, e, _⟩ := hr 0 _ rfl
        cases e
    subst hb
    obtain rfl : 0 = n := hn
    go_enter Try.func29, Try.ntmps29
    go_wp2
    go_ret
    exact ⟨none, 0, rfl, Own.nil _ _ _ _, Gr.rfl' _⟩
  | some ad =>
    have ho := Lib.hid (Own.empty w 5 1)
    have hr2 := hr.gr (Gr.alloc1 w (.cells #[] 5))
    go_enter Try.func29, Try.ntmps29
    go_wp2_with (at_builtin; with_reducible refine wpList_append (o := ⟨some 7, _, _, _, _, _⟩) _ rfl _ _ 31 rfl w.heap.size 5 i0 _ 1 1 Try.underlying31 hi hz0 hz1 hz2 rfl (by omega) _ 0 0 [] rfl ho.out _ n _ (b.map bv) rfl (by simpa using hn) hr2 (bv_one b) (by omega) (by unfold maxLen; omega) (by simp) ?_; intro A' c' w' ho' hk)
    go_ret
    refine ⟨A', c', by simp, by simpa using ho', (Gr.alloc1 w (.cells #[] 5)).trans (hk.below (fun g hg => by injection hg with hg; rw [← hg]; exact Nat.le_refl _) (by simp))⟩

/-- maps.Clone. -/
theorem cloneM_any {X : Nat → Prop} {b : Nat} {l : Files} (w : World) (h : FilesAt w X b l) :
    Calls Try.prog 34 #[.map (some b)] w fun e w' => e = .returned (.map (some w.heap.size)) ∧ FilesAt w' X w.heap.size l ∧ Gr w w' := by
  refine (AnyW.maps_Clone_owns Try.cloneM 9 R1 b l.length _ w h.owns).mono fun e w' ⟨he, h1, h2, h3⟩ => ?_
  have e1 := (Classical.choose_spec h).1
  have e2 := (Classical.choose_spec h).2.1
  exact ⟨he, ⟨_, e1, fun q hq => (e2 q hq).tr (Tr.of_gr (X := fun _ => False) h3) (fun _ _ _ hf => hf.elim) (fun _ h => h), h1⟩, h3⟩

theorem bb_lt : ∀ a b : Str, bytesBefore a b = true → a < b
  | [], [], h => by cases h
  | [], _ :: _, _ => by simp
  | _ :: _, [], h => by cases h
  | a :: r, b :: s, h => by
    simp only [bytesBefore, Bool.or_eq_true, decide_eq_true_eq, Bool.and_eq_true, beq_iff_eq] at h
    rw [List.cons_lt_cons_iff]
    rcases h with h | ⟨rfl, h⟩
    · exact .inl h
    · exact .inr ⟨rfl, bb_lt r s h⟩
theorem names_sorted {l : Files} (h : l.Rising) : (l.map (·.1)).mergeSort leB = l.map (·.1) := by
  refine List.mergeSort_of_pairwise ?_
  rw [List.pairwise_map]
  refine List.Pairwise.imp (fun {a b} hab => ?_) h
  simp only [leB, decide_eq_true_eq]
  exact List.le_of_lt (bb_lt _ _ hab)

theorem zkeys (z : List ZF) : strKeys (DataW.map (z.map zent)) = (z.map (·.2)).map (·.1) := by
  simp [strKeys, zent, strOf, List.map_map, Function.comp_def]

set_option maxHeartbeats 1000000 in
/-- (*Vfs).Names, at the map. -/
theorem names_core {X : Nat → Prop} {p b : Nat} {l : Files} (w : World) (h : FilesAt w X b l) (hl : l.Rising) (hs : l.length ≤ 1000000) (hc : w.cell? ⟨p, 0, none⟩ = some (.map (some b))) :
    Calls Try.prog 17 #[.pointer (some ⟨p, 0, none⟩)] w fun e w' => ∃ A n c, e = .returned (.slice A n c) ∧ n = l.length ∧ Own w' w.heap.size 9 1 A n c ((l.map (·.1)).map encStr) ∧ Gr w w' := by
  have e1 := (Classical.choose_spec h).1
  have ho := h.owns
  have hsz := h.size
  have hk : strKeys (DataW.map ((Classical.choose h).map zent)) = l.map (·.1) := by
    exact (zkeys _).trans (congrArg (List.map (·.1)) e1)
  refine (callsIn_wide (n := 6)).1 ?_
  have hfK : Fence.wide.fn 32 := trivial
  have hfS : Fence.wide.fn 31 := trivial
  have hfC : Fence.wide.fn 30 := trivial
  refine callsIn_of_wp Try.func17 rfl trivial ?_ rfl
  simp only [Try.ntmps17, List.size_toArray, List.length_cons, List.length_nil, Nat.reduceAdd, Nat.reduceSub, Array.replicate_succ, Array.replicate_zero, List.push_toArray, List.append_toArray, List.nil_append, List.cons_append]
  gi_wp2_with (first
    | (gi_at_call 32; refine (keys_any _ _).mono ?_; rintro e w' ⟨rfl, rfl⟩)
    | (gi_at_call 31; (refine (sorted_any b _ _ R1 w ho (by unfold maxLen; omega) (by omega)).mono ?_; rintro e w' ⟨v, ss, rfl, hS, hrow, hnil, hb⟩; obtain ⟨A1, c1, rfl, ho1⟩ := own_of_ownsRow hrow; have hC := Lib.hid (clone_any A1 ss.length c1 _ w' (Lib.hid (by simp)) ho1.rd (by have := hS.length_eq; rw [hk, List.length_map] at this; omega))))
    | (gi_at_call 30; refine ((callsIn_wide (n := 5)).2 hC.out).mono ?_; rintro e w2 ⟨A2, c2, rfl, ho2, _, hg2⟩))
  go_ret
  have hG : Gr w w' := ((Below.refl _ w).alloc (Nat.le_refl _) _).trans (hb.mono (by simp))
  have hp : ss.mergeSort leB = l.map (·.1) := by
    rw [hk] at hS
    rw [mergeSort_of_perm hS, names_sorted hl]
  have hlen : ss.length = l.length := by have := hS.length_eq; rw [hk, List.length_map] at this; exact this
  refine ⟨A2, ss.length, c2, rfl, hlen, ?_, hG.trans' hg2⟩
  have := hp ▸ ho2
  exact this.more (fun g hg => Nat.le_trans hG.size (ho2.blk g hg).1)
end Go.Proofs.Ytopellbmmkflgaa
