/- Package code: low, with, take, and the writers. -/
import Derived.Test.YtnhokgnfkljfhaaChecked
import Derived.Test.YtnhokgnfkljfhaaBase
set_option linter.unusedVariables false
set_option linter.unusedSimpArgs false
namespace Go.Proofs.Ytnhokgnfkljfhaa
open Go.RowKit

theorem info_u8 : (Try.prog.info? 5).map (fun i => (i.zero, i.size, i.bytes)) = some (some (.int .u8 0), 1, 1) := by kernel_rfl

theorem size_u8 : (Try.prog.info? 5).map (·.size) = some 1 := by kernel_rfl

theorem low_cell0 (v n k : Nat) (hlt : k < n) : ((le v k).map bv ++ List.replicate (n - k) (Value.int .u8 0))[k]? = some (.int .u8 0) := by
  rw [List.getElem?_append_right (by simp [le_length]), List.getElem?_replicate, if_pos (by simp [le_length]; try omega)]
theorem low_step (v n k : Nat) (hlt : k < n) :
    ((le v k).map bv ++ List.replicate (n - k) (Value.int .u8 0)).set k (.int .u8 ((v : Int) / 2 ^ (8 * k) % 256)) = (le v (k + 1)).map bv ++ List.replicate (n - (k + 1)) (Value.int .u8 0) := by
  rw [List.set_append_right _ _ (by simp [le_length])]
  have e : n - k = (n - (k + 1)) + 1 := by omega
  have e2 : le v (k + 1) = le v k ++ [UInt8.ofNat (v / 2 ^ (8 * k))] := by simp [le, List.range_succ]
  have e3 : bv (UInt8.ofNat (v / 2 ^ (8 * k))) = .int .u8 ((v : Int) / 2 ^ (8 * k) % 256) := by
    simp [bv]
  rw [e, List.replicate_succ, e2]
  simp [le_length, e3]

theorem low_any (v n : Nat) (w : World) (hv : v < 18446744073709551616) (hn : n ≤ 8) :
    Calls Try.prog 32 #[.int .u64 v, .int .i64 n] w fun e w' => e = .returned (.slice (some ⟨w.heap.size, 0, none⟩) n n) ∧
      Row w' w.heap.size 5 ((le v n).map bv) ∧ Gr w w' := by
  obtain ⟨i0, hi, hz0, hz1, hz2⟩ := info_parts info_u8
  go_enter Try.func32, Try.ntmps32
  go_wp2_with (at_make; refine wpList_make_row _ rfl _ _ _ rfl 5 i0 _ Try.underlying22 hi hz0 hz1 rfl _ _ _ _ n rfl rfl rfl rfl (by rw [hz2]; omega) (by unfold maxLen; omega) ?_)
  intro w0 hrow hg hlt
  go_wp2
  go_loopw [11] (fun i wr => ∃ k : Nat, k ≤ n ∧ i = .int .i64 k ∧ Row wr w.heap.size 5 ((le v k).map bv ++ List.replicate (n - k) (.int .u8 0)) ∧ Gr w wr) (fun i _ => n - (intOf i).toNat)
  case atStart => exact ⟨0, Nat.zero_le _, rfl, hrow, hg⟩
  case round =>
    obtain ⟨k, hk, rfl, hr, hb⟩ := hrel
    by_cases hlt : k < n
    · have hc : wr.cell? ⟨w.heap.size, k, none⟩ = some (.int .u8 0) := by rw [hr.cell]; exact low_cell0 v n k hlt
      have hf := hr.frozen k
      go_wp2
      go_roundw
      case rel => exact ⟨k + 1, by omega, by go_num, by rw [← low_step v n k hlt]; exact hr.set k _, hb.setCell (Nat.le_refl _) _⟩
      case measure => simp [intOf]; omega
    · obtain rfl : k = n := by omega
      go_wp2
      go_ret
      exact ⟨rfl, by simpa using hr, hb⟩

/-- The row behind the two copies of 'with'. -/
theorem with_splices (xs ys : List Value) (Z : List Value) (hZ : Z.length = xs.length + ys.length) : splice (splice Z 0 xs) xs.length ys = xs ++ ys := by
  unfold splice
  simp [List.drop_eq_nil_of_le, hZ]

theorem with_row (xs ys : List UInt8) : splice (splice (List.replicate (xs.length + ys.length) (Value.int .u8 0)) 0 (xs.map bv)) xs.length (ys.map bv) = (xs ++ ys).map bv := by
  have := with_splices (xs.map bv) (ys.map bv) (List.replicate (xs.length + ys.length) (Value.int .u8 0)) (by simp)
  simpa using this

theorem with_any (A B : Option Addr) (c d : Nat) (xs ys : List UInt8) (w : World) (hx : Rd w A (xs.map bv)) (hy : Rd w B (ys.map bv)) (hl : xs.length + ys.length ≤ 140737488351232) :
    Calls Try.prog 31 #[.agg #[.slice A xs.length c], .slice B ys.length d] w fun e w' => ∃ g, e = .returned (.slice (some ⟨g, 0, none⟩) (xs.length + ys.length) (xs.length + ys.length)) ∧
      w.heap.size ≤ g ∧ Row w' g 5 ((xs ++ ys).map bv) ∧ Gr w w' := by
  obtain ⟨i0, hi, hz0, hz1, hz2⟩ := info_parts info_u8
  go_enter Try.func31, Try.ntmps31
  go_wp2_with (at_make; refine wpList_make_row _ rfl _ _ _ rfl 5 i0 _ Try.underlying22 hi hz0 hz1 rfl _ _ _ _ (xs.length + ys.length) rfl rfl (by push_cast; rfl) (by push_cast; rfl) (by rw [hz2]; omega) (by unfold maxLen; omega) ?_)
  intro w0 hrow hg hlt
  have hbox : w0.cell? ⟨w.heap.size, 0, none⟩ = some (.slice A xs.length c) := hg.cell (by simp)
  have hbel : Gr w w0 := Gr.trans' ((Below.refl _ _).alloc (Nat.le_refl _) _) hg
  clear hg
  go_wp2_with (first
    | (with_reducible refine wpList_copy_row (o := ⟨some 17, _, _, _, _, _⟩) rfl _ _ _ _ rfl 5 Try.underlying22 size_u8 _ _ _ _ _ _ rfl rfl _ 0 _ _ hrow (xs.map bv) (by simp) (fun _ => rfl) (hx.gr hbel) (by simp) (bv_one _) w.heap.size w hbel (by simp) ?_
       intro w1 hrow1 hbel1)
    | (with_reducible refine wpList_copy_row (o := ⟨some 20, _, _, _, _, _⟩) rfl _ _ _ _ rfl 5 Try.underlying22 size_u8 _ _ _ _ _ _ rfl rfl _ xs.length _ _ hrow1 (ys.map bv) (by simp) (fun h => by have hne : ys ≠ [] := (fun e => by rw [e] at h; simp at h); simp [hne]) (hy.gr hbel1) (by simp [splice]) (bv_one _) w.heap.size w hbel1 (by simp) ?_
       intro w2 hrow2 hbel2))
  all_goals
    go_ret
    exact ⟨w.heap.size + 1, rfl, by omega, by have h2 := hrow2; rw [with_row] at h2; first | simpa using h2 | simpa [*] using h2, hbel2⟩

/-- A slice of bytes in new memory. -/
def FreshB (w : World) (bs : List UInt8) (e : Ending) (w' : World) : Prop :=
  ∃ g n, e = .returned (.slice (some ⟨g, 0, none⟩) n n) ∧ Hid (bs.length = n) ∧ w.heap.size ≤ g ∧ Row w' g 5 (bs.map bv) ∧ Gr w w'

theorem with_fresh (A B : Option Addr) (n m c d : Nat) (xs ys : List UInt8) (w : World) (hn : Hid (xs.length = n)) (hm : Hid (ys.length = m)) (hx : Rd w A (xs.map bv)) (hy : Rd w B (ys.map bv)) (hl : n + m ≤ 140737488351232) :
    Calls Try.prog 31 #[.agg #[.slice A n c], .slice B m d] w (FreshB w (xs ++ ys)) := by
  obtain rfl := hn.out
  obtain rfl := hm.out
  exact (with_any A B c d xs ys w hx hy hl).mono fun e w' ⟨g, he, h1, h2, h3⟩ => ⟨g, _, he, Lib.hid (by simp), h1, h2, h3⟩
end Go.Proofs.Ytnhokgnfkljfhaa
