/- Package cadencelaw15: Few; New, where it says which blocks; how much an act adds. -/
import Derived.Test.YtopellbmmkflgaaVpO
set_option linter.unusedVariables false
set_option linter.unusedSimpArgs false
namespace Go.Proofs.Ytopellbmmkflgaa
open Go.RowKit Go.Maps Go.Sort
structure AcR.Few (q : AcR) : Prop where
  b : q.q.n ≤ 200
  nm : q.nm.length ≤ 40
  ks : q.nk ≤ 60
def ActsAt (w : World) (A : Option Addr) (len : Nat) (rs : List AcR) : Prop :=
  len = 0 ∨ ∃ g off, A = some ⟨g, off, none⟩ ∧ ∀ (i : Nat) (hi : i < rs.length) (k : Nat) (u : Value), rs[i].cells[k]? = some u → w.cell? ⟨g, off + i * 5 + k, none⟩ = some u
theorem ActsAt.gr {w w' : World} {A : Option Addr} {len : Nat} {rs : List AcR} (h : ActsAt w A len rs) (hg : Gr w w') : ActsAt w' A len rs := by
  rcases h with h | ⟨g, off, e, h⟩
  · exact .inl h
  · exact .inr ⟨g, off, e, fun i hi k u hu => hg.cell (h i hi k u hu)⟩
theorem ActsAt.at_ {w : World} {A : Option Addr} {len : Nat} {rs : List AcR} (h : ActsAt w A len rs) {i : Nat} (hi : i < rs.length) (hl : i < len) : ∃ g off, A = some ⟨g, off, none⟩ ∧
    w.cell? ⟨g, off + i * 5, none⟩ = some (.int .i64 rs[i].K) ∧ w.cell? ⟨g, off + i * 5 + 1, none⟩ = some (.int .i64 rs[i].N) ∧ w.cell? ⟨g, off + i * 5 + 2, none⟩ = some (encStr rs[i].nm) ∧
    w.cell? ⟨g, off + i * 5 + 3, none⟩ = some (.slice rs[i].q.A rs[i].q.n rs[i].q.c) ∧ w.cell? ⟨g, off + i * 5 + 4, none⟩ = some (.slice rs[i].Ak rs[i].nk rs[i].ck) := by
  rcases h with h | ⟨g, off, e, h⟩
  · omega
  · exact ⟨g, off, e, h i hi 0 _ rfl, h i hi 1 _ rfl, h i hi 2 _ rfl, h i hi 3 _ rfl, h i hi 4 _ rfl⟩
def FewP (w : World) (n : Nat) (rs : List AcR) (e : Ending) (w' : World) : Prop := ∃ f : Bool, e = .returned (.bool f) ∧ w = w' ∧ (f = true → n ≤ 50 ∧ ∀ q ∈ rs, q.Few)
set_option maxHeartbeats 1000000 in
theorem few_any (w : World) (A : Option Addr) (n c : Nat) (rs : List AcR) (hn : Hid (rs.length = n)) (hr : ActsAt w A n rs) (hlc : n ≤ c) (hcm : c ≤ maxLen) :
    Calls Try.prog 24 #[.slice A n c] w (FewP w n rs) := by
  have hnc := Nat.le_trans hlc hcm
  unfold maxLen at hnc
  go_enter Try.func24, Try.ntmps24
  go_wp2_with fail
  go_loopw [3] (fun i wr => ∃ j : Nat, j ≤ n ∧ i = .int .i64 j ∧ Hid (∀ i (h : i < rs.length), i < j → rs[i].Few) ∧ w = wr) (fun i _ => n - (intOf i).toNat)
  case atStart => exact ⟨0, by omega, rfl, Lib.hid (fun i h h' => absurd h' (by omega)), rfl⟩
  case round =>
    obtain ⟨j, hj, rfl, hlo, rfl⟩ := hrel
    by_cases hlt : j < n
    · have hjl : j < rs.length := by have := hn.out; omega
      obtain ⟨g, off, rfl, x0, x1, x2, x3, x4⟩ := hr.at_ hjl hlt
      have hsz : (⟨rs[j].nm.toArray⟩ : ByteArray).size = rs[j].nm.length := by simp [ByteArray.size]
      have hfew := Lib.hid (show rs[j].q.n ≤ 200 → rs[j].nm.length ≤ 40 → rs[j].nk ≤ 60 → ∀ i (h : i < rs.length), i < j + 1 → rs[i].Few from fun h1 h2 h3 i h h' => by
        by_cases e : i = j
        · subst e; exact ⟨h1, h2, h3⟩
        · exact hlo.out i h (by omega))
      clear x0 x1
      generalize rs[j].nm = nm at *
      generalize rs[j].q.n = nb at *
      generalize rs[j].nk = nk at *
      by_cases h1 : (200 : Int) < (nb : Int)
      · go_wp2
        go_ret
        exact ⟨false, rfl, rfl, fun h => by cases h⟩
      · by_cases h2 : (40 : Int) < (nm.length : Int)
        · go_wp2
          go_ret
          exact ⟨false, rfl, rfl, fun h => by cases h⟩
        · by_cases h3 : (60 : Int) < (nk : Int)
          · go_wp2
            go_ret
            exact ⟨false, rfl, rfl, fun h => by cases h⟩
          · go_wp2
            go_roundw
            case rel => exact ⟨j + 1, by omega, by go_num, Lib.hid (hfew.out (by omega) (by omega) (by omega)), trivial⟩
            case measure => simp [intOf]; omega
    · obtain rfl : j = n := by omega
      have hall : ∀ q ∈ rs, q.Few := fun q hq => by
        obtain ⟨i, hi, rfl⟩ := List.getElem_of_mem hq
        exact hlo.out i hi (by have := hn.out; omega)
      by_cases h50 : (j : Int) ≤ 50
      · go_wp2
        go_ret
        exact ⟨true, rfl, rfl, fun _ => ⟨by omega, hall⟩⟩
      · go_wp2
        go_ret
        exact ⟨false, rfl, rfl, fun h => by cases h⟩
/-- New: which blocks. -/
theorem new_at (r : Int) (w : World) : Calls Try.prog 12 #[.int .i64 r] w fun e w' => e = .returned (.pointer (some ⟨w.heap.size + 1 + 1, 0, none⟩)) ∧ At w' (fun i => w.heap.size ≤ i ∧ i < w.heap.size + 1 + 1 + 1) (w.heap.size + 1 + 1) (V.new r) ∧ Gr w w' := by
  have hr := roomOf_eq r
  have n1 := FilesAt.made w (fun i => w.heap.size ≤ i ∧ i < w.heap.size + 1 + 1 + 1)
  have n2 := FilesAt.made (w.alloc (.map #[] 0)) (fun i => w.heap.size ≤ i ∧ i < w.heap.size + 1 + 1 + 1)
  have hcells : vfsCells w.heap.size (w.heap.size + 1) none 0 (V.new r) = [.map (some w.heap.size), .map (some (w.heap.size + 1)), .slice none 0 0, .int .i64 (min (max r 0) 1048576), .int .i64 0, .int .i64 0, .bool false] := by
    simp [vfsCells, V.new, hr]
  have hrow := Row.new ((w.alloc (.map #[] 0)).alloc (.map #[] 0)) 59 (vfsCells w.heap.size (w.heap.size + 1) none 0 (V.new r))
  rw [hcells] at hrow
  have hG1 : Gr (w.alloc (.map #[] 0)) ((w.alloc (.map #[] 0)).alloc (.map #[] 0)) := Gr.alloc1 _ _
  have hG2 := Gr.alloc1 ((w.alloc (.map #[] 0)).alloc (.map #[] 0)) (.cells [.map (some w.heap.size), .map (some (w.heap.size + 1)), .slice none 0 0, .int .i64 (min (max r 0) 1048576), .int .i64 0, .int .i64 0, .bool false].toArray 59)
  have mk := fun w => run_makeMap (P := Try.prog) 56 w
  go_enter Try.func12, Try.ntmps12
  go_wp2
  go_ret
  have hct : ∀ {W W' : World} {X : Nat → Prop}, Gr W W' → ∀ v xs, Cont W X v xs → Cont W' X v xs := fun hg v xs hc => hc.tr (Tr.of_gr (X := fun _ => False) hg) (fun _ _ _ hf => hf.elim) (fun _ h => h)
  refine ⟨by simp, ⟨ok_new r, w.heap.size, w.heap.size + 1, none, 0, ?_⟩, (Gr.alloc1 w _).trans' (hG1.trans' hG2)⟩
  refine ⟨by rw [hcells]; simpa using hrow, ?_, ?_, SinceAt.nil _ _, by omega, ⟨by omega, by omega⟩, ⟨Nat.le_refl _, by omega⟩, ⟨by omega, by omega⟩, (fun g hg => by cases hg), fun i hi => by simp; omega⟩
  · exact n1.keep ((hG1.trans' hG2).block _ (by simp)) (hct (hG1.trans' hG2))
  · have := n2.keep (hG2.block _ (by simp)) (hct hG2)
    rw [show (w.alloc (.map #[] 0)).heap.size = w.heap.size + 1 by simp] at this
    exact this
theorem actDo_ops (s : V) (K N : Int) (nm b : Str) (ks : List Int) : (actDo s K N nm b ks).ops ≤ s.ops + 1 := by
  unfold actDo
  split
  · exact write_ops _ _ _
  · split
    · exact remove_ops _ _
    · split
      · exact flush_ops _
      · split
        · exact Nat.le_succ _
        · exact Nat.le_succ _
theorem actDo_stop (s : V) (K N : Int) (nm b : Str) (ks : List Int) (h : s.stop ≤ 7) : (actDo s K N nm b ks).stop ≤ 7 := by
  unfold actDo
  split
  · exact Nat.le_trans (write_stop _ _ _) h
  · split
    · exact Nat.le_trans (remove_stop _ _) h
    · split
      · exact Nat.le_trans (flush_stop _) h
      · split
        · show (N % 8 - 1).toNat ≤ 7
          have := Int.emod_lt_of_pos N (show (0 : Int) < 8 by decide)
          omega
        · exact Nat.zero_le _
end Go.Proofs.Ytopellbmmkflgaa
