/- Package names: only. -/
import Derived.Test.YtbjkfllghkcgcaaNm3
import Derived.Test.YtbjkfllghkcgcaaNmP
set_option linter.unusedVariables false
set_option linter.unusedSimpArgs false
namespace Go.Proofs.Ytbjkfllghkcgcaa
open Go.RowKit Go.Sort

attribute [local go_sem] Vc.known_tmp Vc.known_const Vc.known_func Vc.known_global Vc.lk Vc.okUpon Vc.Fact.holds

def onlyR (X Y : List Str) (b : Bool) : List Str := X.filter fun x => decide (x ∈ Y) == b
def onlyL (X Y : List Str) (b : Bool) : List Str := ofL (onlyR X Y b)

theorem search_any (A : Option Addr) (n c : Nat) (Y : List Str) (x : Str) (w : World) (hn : Hid (Y.length = n)) (hr : Rd w A (Y.map encStr)) (hs : Y.Pairwise (· < ·)) (hl : n ≤ 1000000) :
    Calls Try.prog 47 #[.slice A n c, encStr x] w fun e w' => ∃ k : Int, e = .returned (.tuple #[.int .i64 k, .bool (decide (x ∈ Y))]) ∧ Gr w w' := by
  have hn' := hn.out
  by_cases h0 : 0 < n
  · obtain ⟨b, off, e, hc⟩ := hr.plain (by omega)
    subst e
    obtain ⟨k, k1, k2, k3, k4⟩ := split_at Y x hs
    have hless : (fun t => Op.bytesLess (ba (Y.getD t x)).toList (ba x).toList) = fun t => decide (Y.getD t x < x) := by
      funext t
      rw [bytesLess_eq, ByteArray.toList_eq, ByteArray.toList_eq]
      rfl
    have hk : Lib.bsGo (fun t => Op.bytesLess (ba (Y.getD t x)).toList (ba x).toList) n 0 n = k := by
      rw [hless]
      exact Lib.bsGo_spec _ k (fun t ht => by simpa using k2 t ht) (fun t ht => by simpa using k3 t ht) n 0 n (by omega) (Nat.zero_le _) (by omega)
    refine (Try.slices_BinarySearch_string b off n c (fun t => ba (Y.getD t x)) (ba x) w (by omega) (fun j hj => by
      rw [hc j (by omega)]
      have hjl : j < Y.length := by omega
      simp [ba, List.getD_eq_getElem?_getD, hjl])).mono fun e w' ⟨he, q, hw⟩ => ?_
    subst hw
    rw [hk] at he
    refine ⟨k, ?_, Gr.drawN _ _⟩
    rw [he]
    have hba : (ba (Y.getD k x) = ba x) ↔ Y.getD k x = x := by
      constructor
      · intro h
        have := congrArg (fun z : ByteArray => z.data.toList) h
        exact this
      · intro h; rw [h]
    have hd : decide (k < n ∧ ba (Y.getD k x) = ba x) = decide (x ∈ Y) := by rw [decide_eq_decide, hba, ← hn', k4]
    rw [hd]
  · obtain rfl : n = 0 := by omega
    have : Y = [] := List.eq_nil_of_length_eq_zero hn'
    subst this
    exact (Try.slices_BinarySearch_string_empty A c (ba x) w).mono fun e w' ⟨he, hw⟩ => ⟨0, by rw [he]; simp, by subst hw; exact Gr.rfl' _⟩

theorem onlyR_snoc {X Y : List Str} {b : Bool} {j : Nat} (h : j < X.length) : onlyR (X.take (j + 1)) Y b = onlyR (X.take j) Y b ++ (if decide (X[j] ∈ Y) == b then [X[j]] else []) := by
  unfold onlyR
  rw [List.take_succ_eq_append_getElem h, List.filter_append]
  congr 1
  simp only [List.filter_cons, List.filter_nil]
theorem onlyR_length {X Y : List Str} {b : Bool} : (onlyR X Y b).length ≤ X.length := List.length_filter_le _ _

set_option maxHeartbeats 4000000 in
theorem only_any (A : Option Addr) (n c : Nat) (X : List Str) (A2 : Option Addr) (n2 c2 : Nat) (Y : List Str) (b : Bool) (w : World) (hn : Hid (X.length = n)) (hr : Rd w A (X.map encStr)) (hl : n ≤ 100000)
    (hn2 : Hid (Y.length = n2)) (hr2 : Rd w A2 (Y.map encStr)) (hl2 : n2 ≤ 100000) (hs : Hid (Y.Pairwise (· < ·))) :
    Calls Try.prog 37 #[.agg #[.slice A n c], .agg #[.slice A2 n2 c2], .bool b] w (SetB w (onlyL X Y b)) := by
  have HB := Lib.hid (fun x W h => search_any A2 n2 c2 Y x W hn2 h hs.out (by omega))
  have HO := Lib.hid (fun A n c L W h1 h2 h3 => of_any A n c L W h1 h2 h3)
  obtain ⟨i0, hi, hz0, hz1, hz2⟩ := info_parts info_str
  go_enter Try.func37, Try.ntmps37
  go_wp2_with fail
  obtain ⟨hrow, hrow2, hres, hg1⟩ := new3 w 56 56 56 [.slice A n c] [.slice A2 n2 c2] [.slice none 0 0]
  generalize ((w.alloc (.cells #[.slice A n c] 56)).alloc (.cells #[.slice A2 n2 c2] 56)).alloc (.cells #[.slice none 0 0] 56) = w1 at *
  have hc1 := Lib.hid (show w1.cell? ⟨w.heap.size + 1, 0, none⟩ = some (.slice A2 n2 c2) from hrow2.cell 0)
  have hd := hr.gr hg1
  have hd2 := hr2.gr hg1
  have hlt := hres.lt
  go_loopw [7, 15] (fun o i wr => ∃ j : Nat, j ≤ n ∧ i = .int .i64 j ∧ ∃ A' n' c', o = .slice A' n' c' ∧ n' ≤ j ∧ Own wr w1.heap.size 9 1 A' n' c' ((onlyR (X.take j) Y b).map encStr) ∧ Gr w1 wr) (fun _ i _ => n - (intOf i).toNat)
  case atStart => exact ⟨0, by omega, rfl, none, 0, 0, rfl, by omega, by simpa [onlyR] using Own.nil _ _ _ _, Gr.rfl' _⟩
  case round =>
    obtain ⟨j, hj, rfl, A', n', c', rfl, hnj, ho, hb⟩ := hrel
    by_cases hlt2 : j < n
    · have hjl : j < X.length := by have := hn.out; omega
      obtain ⟨ad, rfl, hc⟩ := hd.at_ (k := j) (by simpa using hjl)
      replace hc := hb.cell hc
      simp only [List.getElem_map] at hc
      have hst := onlyR_snoc (Y := Y) (b := b) hjl
      have HBx := Lib.hid (fun W h => HB.out X[j] W h)
      have hc5 := hb.cell hc1.out
      have hwl := hb.size
      obtain ⟨d, hd'⟩ : ∃ d, decide (X[j] ∈ Y) = d := ⟨_, rfl⟩
      rw [hd'] at hst HBx
      generalize hx : X[j] = x at *
      have hoB := ho
      by_cases hdb : d = b
      · subst hdb
        rw [show (d == d) = true by simp, if_pos rfl] at hst
        have hst := Lib.hid hst
        go_wp2_with (first
          | (go_at_call 47; (with_reducible refine (HBx.out _ (hd2.gr hb)).mono ?_); rintro e w5 ⟨k, rfl, hg5⟩; have hb5 := hb.trans' hg5; have ho5 := ho.gr hg5; have hz5 := hb5.size)
          | (at_builtin; with_reducible refine wpList_append (o := ⟨some 32, _, _, _, _, _⟩) _ rfl _ _ 23 rfl w1.heap.size 9 i0 _ 1 16 Try.underlying23 hi hz0 hz1 hz2 rfl (by omega) A' n' c' _ rfl (ho5.gr (Gr.alloc1 _ _)) _ 1 1 [encStr x] rfl rfl (Rd.one_new _ _ _) (by simp [Value.oneCell']) (by omega) (by unfold maxLen; omega) (Nat.le_trans hz5 (Gr.alloc1 _ _).size) ?_
             intro A6 c6 w6 ho6 hk6
             have hG6 : Gr w1 w6 := (hb5.trans' (Gr.alloc1 _ _)).grownB hk6.grown (fun g hg => (hoB.blk g hg).1)
             clear hk6))
        go_roundw
        case rel =>
          refine ⟨j + 1, by omega, by go_num, A6, n' + 1, c6, rfl, by omega, ?_, hG6⟩
          rw [hst.out, List.map_append]
          exact ho6
        case measure => simp [intOf]; omega
      · have hdf : (d == b) = false := by simpa using hdb
        rw [hdf, if_neg (by simp), List.append_nil] at hst
        have hst := Lib.hid hst
        clear hdb
        go_wp2_with (first
          | (go_at_call 47; (with_reducible refine (HBx.out _ (hd2.gr hb)).mono ?_); rintro e w5 ⟨k, rfl, hg5⟩; have hb5 := hb.trans' hg5; have ho5 := ho.gr hg5; have hz5 := hb5.size))
        go_roundw
        case rel =>
          refine ⟨j + 1, by omega, by go_num, A', n', c', rfl, by omega, ?_, hb5⟩
          rw [hst.out]
          exact ho5
        case measure => simp [intOf]; omega
    · obtain rfl : j = n := by omega
      rw [List.take_of_length_le (by have := hn.out; omega)] at ho
      have hq := Lib.hid (hres.gr hb)
      have HO2 := Lib.hid (HO.out A' n' c' (onlyR X Y b) wr (Lib.hid (by simpa using ho.1)) ho.rd (by omega))
      clear hlt2 hc1 hrow hrow2
      go_wp2_with (first
       | (go_at_call 35; (with_reducible refine HO2.out.mono ?_); rintro e w4 ⟨A4, n4, c4, rfl, hn4, hr4, h1, h2, hg4⟩
          have hrow := hq.out.gr hg4
          have hq0 : w4.cell? ⟨w.heap.size + 1 + 1, 0, none⟩ = some (.slice none 0 0) := hrow.cell 0
          have hf0 : w4.frozen? ⟨w.heap.size + 1 + 1, 0, none⟩ = false := hrow.frozen 0
          have hn4 := Lib.hid hn4))
      obtain ⟨hR, ho, hG⟩ := res1 hrow ((hg1.trans' hb).trans' hg4) (by omega) (.slice A4 n4 c4)
      have hs0 := hR.cell 0
      simp only [List.getElem?_cons_zero] at hs0
      (try simp only [Exit.inBlock, Exit.then])
      refine bodyPost_ret (v := ?_) ?_ rfl ?_
      rotate_left
      · simp [results, Try.results37, go_sem, hs0]
        (try rfl)
      exact ⟨A4, n4, c4, rfl, hn4.out, hr4.keepStr hrow (by simp) ho, h1, h2, hG⟩
end Go.Proofs.Ytbjkfllghkcgcaa
