/- Texts on the way to 'MergeRows', one behind the other (part 1). -/
import Derived.Test.YtainbaehfdhmbaaProg
import Derived.Below
import Derived.Deep.Draws
import Derived.Deep.AppendLies
import Derived.Maps.AppendAt
import Derived.OwnWalk
import Derived.Laws.BytesArg
import Derived.Laws.MakeOwn
import Derived.Laws.OwnMore
import Derived.Deep.OwnRows
import Derived.Tactics
import Derived.Lib.ConvBytes
import Derived.Laws.Slices
import Derived.WalkKit
import Derived.KernelRfl
import Derived.RowKit3
import Derived.Deep.LoopGhost
import Derived.Deep.QuietTactic
import Derived.BigQuiet
import Derived.WideLaws
import Derived.Deep.DeepCutAuto
import Derived.Deep.CutBlock
import Derived.Deep.RegionHeld3
import Derived.Laws.Rows
import Derived.Lib.AppendStr
import Derived.ArgAppend
import Derived.Laws.IdiomCopy
import Derived.OrdersHeld
import Derived.Laws.BitsLemmas
import Derived.RowKit
import Derived.Lib.SliceRun
import Derived.Test.YtainbaehfdhmbaaMMergeRowsWWords
import Derived.Test.YtainbaehfdhmbaaMMergeRowsWLast
import Derived.Test.YtainbaehfdhmbaaMMergeRowsWTab
import Derived.Test.YtainbaehfdhmbaaMMergeRowsWQPut
import Derived.Test.YtainbaehfdhmbaaMMergeRowsWApart
import Derived.Test.YtainbaehfdhmbaaMMergeRowsWArr
import Derived.Test.YtainbaehfdhmbaaMMergeRowsWZeros
import Derived.Test.YtainbaehfdhmbaaMMergeRowsWFoot
import Derived.Test.YtainbaehfdhmbaaMMergeRowsWKept
import Derived.Test.YtainbaehfdhmbaaMMergeRowsWShare
import Derived.Test.YtainbaehfdhmbaaMMergeRowsWN
import Derived.Test.YtainbaehfdhmbaaMMergeRowsWRepsOne
import Derived.Test.YtainbaehfdhmbaaMMergeRowsWGuard
import Derived.Test.YtainbaehfdhmbaaMMergeRowsWNEv
import Derived.Test.YtainbaehfdhmbaaMMergeRowsWMore
import Derived.Sort.Walk0
import Derived.Shelf.Abstract
import Derived.Laws.EntriesVeiled
import Derived.Lib.SlicesCompact
import Derived.Lib.RowBridge
import Derived.Lib.Hide
import Derived.Laws.CopyOwn
import Derived.Test.YtainbaehfdhmbaaShelf
import Derived.Sort.OwnSorted
import Derived.Sort.Grow
import Derived.Lib.OwnBridge
import Derived.Handy
import Derived.Lib.Bytealg
namespace Go.Proofs.Ytainbaehfdhmbaa.PX
open Go.RowKit Go.Proofs.YtainbaehfdhmbaaW.PrintWords Go.Proofs.YtainbaehfdhmbaaW.PrintLast Go.Proofs.YtainbaehfdhmbaaW.PrintMore
attribute [local go_sem] max2_int min2_int max_two min_two max_three min_three max_four min_four   
set_option linter.unusedVariables false
set_option linter.unusedSimpArgs false
def errW : Option Int → Value
  | none => .nilIface
  | some c => .iface 0 (.int .i64 c)
theorem errW_none : errW none = .nilIface := rfl
theorem errW_some (c : Int) : errW (some c) = .iface 0 (.int .i64 c) := rfl
theorem info9 : (Try.prog.info? 9).map (fun i => (i.zero, i.size, i.bytes)) = some (some (.string ⟨#[]⟩), 1, 16) := by kernel_rfl
theorem info38 : (Try.prog.info? 38).map (fun i => (i.zero, i.size, i.bytes)) = some (some (.agg #[(.slice none 0 0), (.int .i64 0)]), 2, 32) := by kernel_rfl
theorem info51 : (Try.prog.info? 51).map (fun i => (i.zero, i.size, i.bytes)) = some (some (.agg #[(.string ⟨#[]⟩), (.slice none 0 0)]), 2, 40) := by kernel_rfl
structure S54 where
  f0 : Bool
  f1 : (List ByteArray)
def z54 : S54 := ⟨false, ([] : List ByteArray)⟩
def k54 : Kd S54 := Kd.iso (Kd.pair Kd.bool (Kd.slice 9 Kd.string)) (fun x : S54 => (x.f0, x.f1))
theorem k54_open {w : World} {x : S54} {cs : List Value} (h : k54.K w x cs) : ∃ A1 c1, cs = [.bool x.f0, .slice A1 x.f1.length c1] ∧ x.f1.length ≤ c1 ∧ Kd.string.C w A1 x.f1.length x.f1 := by
  obtain ⟨_, _, rfl, rfl, ⟨A1, c1, rfl, l1, g1⟩⟩ := h
  exact ⟨A1, c1, rfl, l1, g1⟩
theorem k54_mk (w : World) (x : S54) {A1 : Option Addr} {c1 : Nat} (l1 : x.f1.length ≤ c1) (g1 : Kd.string.C w A1 x.f1.length x.f1) : k54.K w x [.bool x.f0, .slice A1 x.f1.length c1] := ⟨[.bool x.f0], [.slice A1 x.f1.length c1], rfl, rfl, ⟨A1, c1, rfl, l1, g1⟩⟩
structure S56 where
  f0 : S54
  f1 : Int
  f2 : Bool
def z56 : S56 := ⟨z54, (0 : Int), false⟩
def k56 : Kd S56 := Kd.iso (Kd.pair k54 (Kd.pair (Kd.int .i64) Kd.bool)) (fun x : S56 => (x.f0, x.f1, x.f2))
theorem k56_open {w : World} {x : S56} {cs : List Value} (h : k56.K w x cs) : ∃ A1 c1, cs = [.bool x.f0.f0, .slice A1 x.f0.f1.length c1, .int .i64 x.f1, .bool x.f2] ∧ x.f0.f1.length ≤ c1 ∧ Kd.string.C w A1 x.f0.f1.length x.f0.f1 := by
  obtain ⟨_, _, rfl, s0, ⟨_, _, rfl, rfl, rfl⟩⟩ := h
  obtain ⟨A1, c1, rfl, l1, g1⟩ := k54_open s0
  exact ⟨A1, c1, rfl, l1, g1⟩
theorem k56_mk (w : World) (x : S56) {A1 : Option Addr} {c1 : Nat} (l1 : x.f0.f1.length ≤ c1) (g1 : Kd.string.C w A1 x.f0.f1.length x.f0.f1) : k56.K w x [.bool x.f0.f0, .slice A1 x.f0.f1.length c1, .int .i64 x.f1, .bool x.f2] := ⟨[.bool x.f0.f0, .slice A1 x.f0.f1.length c1], [.int .i64 x.f1, .bool x.f2], rfl, (k54_mk w x.f0 l1 g1), ⟨[.int .i64 x.f1], [.bool x.f2], rfl, rfl, rfl⟩⟩
theorem k56_mkF (W : World) (ok : Nat → Prop) (x : S56) {A1 : Option Addr} {c1 : Nat} (l1 : x.f0.f1.length ≤ c1) (g1 : Kd.F Kd.string W ok A1 x.f0.f1.length x.f0.f1) : Kd.FK k56 W ok x [.bool x.f0.f0, .slice A1 x.f0.f1.length c1, .int .i64 x.f1, .bool x.f2] := fun W2 hW => k56_mk W2 x l1 (g1 W2 hW)
def rd_T56 (xs : List S56) (i : Int) : S56 := xs.getD i.toNat z56
theorem at_T56 {w : World} {A : Option Addr} {n : Nat} {xs : List S56} (h : Kd.C k56 w A n xs) (i : Int) (h0 : 0 ≤ i) (h1 : i < n) : ∃ ad A1 c1, A = some ad ∧ w.cell? (ad.add (i.toNat * 4)) = some (.bool (rd_T56 xs i).f0.f0) ∧ w.cell? ⟨(ad.add (i.toNat * 4)).block, (ad.add (i.toNat * 4)).off + 1, none⟩ = some (.slice A1 (rd_T56 xs i).f0.f1.length c1) ∧ w.cell? ⟨(ad.add (i.toNat * 4)).block, (ad.add (i.toNat * 4)).off + 2, none⟩ = some (.int .i64 (rd_T56 xs i).f1) ∧ w.cell? ⟨(ad.add (i.toNat * 4)).block, (ad.add (i.toNat * 4)).off + 3, none⟩ = some (.bool (rd_T56 xs i).f2) ∧ (rd_T56 xs i).f0.f1.length ≤ c1 ∧ Kd.string.C w A1 (rd_T56 xs i).f0.f1.length (rd_T56 xs i).f0.f1 := by
  obtain ⟨ad, c, e, _, hK, hc0⟩ := Kd.C_get h z56 i h0 h1
  have hc : ∀ j u, c[j]? = some u → w.cell? (ad.add (i.toNat * 4 + j)) = some u := hc0
  obtain ⟨A1, c1, rfl, l1, g1⟩ := k56_open hK
  exact ⟨ad, A1, c1, e, hc 0 _ rfl, by rw [← add_field _ _ 1 (by omega)]; exact hc 1 _ rfl, by rw [← add_field _ _ 2 (by omega)]; exact hc 2 _ rfl, by rw [← add_field _ _ 3 (by omega)]; exact hc 3 _ rfl, l1, g1⟩
structure S59 where
  f0 : (List S56)
  f1 : Bool
  f2 : Bool
def z59 : S59 := ⟨([] : List S56), false, false⟩
def k59 : Kd S59 := Kd.iso (Kd.pair (Kd.slice 56 k56) (Kd.pair Kd.bool Kd.bool)) (fun x : S59 => (x.f0, x.f1, x.f2))
theorem k59_open {w : World} {x : S59} {cs : List Value} (h : k59.K w x cs) : ∃ A0 c0, cs = [.slice A0 x.f0.length c0, .bool x.f1, .bool x.f2] ∧ x.f0.length ≤ c0 ∧ k56.C w A0 x.f0.length x.f0 := by
  obtain ⟨_, _, rfl, ⟨A0, c0, rfl, l0, g0⟩, ⟨_, _, rfl, rfl, rfl⟩⟩ := h
  exact ⟨A0, c0, rfl, l0, g0⟩
theorem k59_mk (w : World) (x : S59) {A0 : Option Addr} {c0 : Nat} (l0 : x.f0.length ≤ c0) (g0 : k56.C w A0 x.f0.length x.f0) : k59.K w x [.slice A0 x.f0.length c0, .bool x.f1, .bool x.f2] := ⟨[.slice A0 x.f0.length c0], [.bool x.f1, .bool x.f2], rfl, ⟨A0, c0, rfl, l0, g0⟩, ⟨[.bool x.f1], [.bool x.f2], rfl, rfl, rfl⟩⟩
theorem k59_mkF (W : World) (ok : Nat → Prop) (x : S59) {A0 : Option Addr} {c0 : Nat} (l0 : x.f0.length ≤ c0) (g0 : Kd.F k56 W ok A0 x.f0.length x.f0) : Kd.FK k59 W ok x [.slice A0 x.f0.length c0, .bool x.f1, .bool x.f2] := fun W2 hW => k59_mk W2 x l0 (g0 W2 hW)
def rd_T59 (xs : List S59) (i : Int) : S59 := xs.getD i.toNat z59
theorem at_T59 {w : World} {A : Option Addr} {n : Nat} {xs : List S59} (h : Kd.C k59 w A n xs) (i : Int) (h0 : 0 ≤ i) (h1 : i < n) : ∃ ad A0 c0, A = some ad ∧ w.cell? (ad.add (i.toNat * 3)) = some (.slice A0 (rd_T59 xs i).f0.length c0) ∧ w.cell? ⟨(ad.add (i.toNat * 3)).block, (ad.add (i.toNat * 3)).off + 1, none⟩ = some (.bool (rd_T59 xs i).f1) ∧ w.cell? ⟨(ad.add (i.toNat * 3)).block, (ad.add (i.toNat * 3)).off + 2, none⟩ = some (.bool (rd_T59 xs i).f2) ∧ (rd_T59 xs i).f0.length ≤ c0 ∧ k56.C w A0 (rd_T59 xs i).f0.length (rd_T59 xs i).f0 := by
  obtain ⟨ad, c, e, _, hK, hc0⟩ := Kd.C_get h z59 i h0 h1
  have hc : ∀ j u, c[j]? = some u → w.cell? (ad.add (i.toNat * 3 + j)) = some u := hc0
  obtain ⟨A0, c0, rfl, l0, g0⟩ := k59_open hK
  exact ⟨ad, A0, c0, e, hc 0 _ rfl, by rw [← add_field _ _ 1 (by omega)]; exact hc 1 _ rfl, by rw [← add_field _ _ 2 (by omega)]; exact hc 2 _ rfl, l0, g0⟩
structure S51 where
  f0 : ByteArray
  f1 : (List S51)
def z51 : S51 := ⟨(⟨#[]⟩ : ByteArray), ([] : List S51)⟩
def F51 (d : Kd S51) : Kd S51 := Kd.iso (Kd.pair Kd.string (Kd.slice 51 d)) (fun x : S51 => (x.f0, x.f1))
theorem mono51 : Kd.Mono F51 := Kd.mono_iso _ (Kd.mono_pair (Kd.mono_const _) (Kd.mono_slice 51 Kd.mono_id))
theorem sub51 : Kd.Sub F51 [51] := Kd.sub_iso _ (Kd.sub_pair (Kd.sub_const _ (by decide)) (Kd.sub_slice 51 (by decide) Kd.sub_id))
theorem sz51 : ∀ n, (Kd.upto F51 2 [51] n).sz = 2 := Kd.upto_sz (fun _ => rfl)
def k51 : Kd S51 := Kd.fix F51 2 [51] sz51 (Kd.upto_E sub51)
theorem k51_heap : Kd.Heap k51 := Kd.heap_fix (fun _ h_ => Kd.heap_iso _ (Kd.heap_pair Kd.heap_string (Kd.heap_slice 51 h_)))
theorem k51_open {w : World} {x : S51} {cs : List Value} (h : k51.K w x cs) : ∃ A1 c1, cs = [.string x.f0, .slice A1 x.f1.length c1] ∧ x.f1.length ≤ c1 ∧ k51.C w A1 x.f1.length x.f1 := by
  obtain ⟨n, h⟩ := h
  cases n with
  | zero => exact h.elim
  | succ n =>
    obtain ⟨_, _, rfl, rfl, ⟨A1, c1, rfl, l1, g1⟩⟩ := h
    exact ⟨A1, c1, rfl, l1, Kd.fix_C g1⟩
theorem k51_mk (w : World) (x : S51) {A1 : Option Addr} {c1 : Nat} (l1 : x.f1.length ≤ c1) (g1 : k51.C w A1 x.f1.length x.f1) : k51.K w x [.string x.f0, .slice A1 x.f1.length c1] := by
  obtain ⟨n1, q1⟩ := Kd.fix_C_back mono51 g1
  have r1 := Kd.upto_C_le mono51 sz51 (show n1 ≤ n1 by omega) q1
  exact ⟨n1 + 1, ⟨[.string x.f0], [.slice A1 x.f1.length c1], rfl, rfl, ⟨A1, c1, rfl, l1, r1⟩⟩⟩
theorem k51_mkM (w : World) (base : Nat) (ok : Nat → Prop) (x : S51) {v1 : Value} (g1 : k51.R 51 w base ok v1 x.f1) : k51.M w base ok x [.string x.f0, v1] := by
  obtain ⟨n1, q1⟩ := Kd.fix_R_back mono51 g1
  have r1 := Kd.upto_R_le mono51 sz51 (show n1 ≤ n1 by omega) q1
  exact ⟨n1 + 1, ⟨[.string x.f0], [v1], rfl, rfl, ⟨v1, rfl, r1⟩⟩⟩
theorem k51_openF {W : World} {ok : Nat → Prop} {x : S51} {cs : List Value} (h : Kd.FK k51 W ok x cs) : ∃ A1 c1, cs = [.string x.f0, .slice A1 x.f1.length c1] ∧ x.f1.length ≤ c1 ∧ Kd.F k51 W ok A1 x.f1.length x.f1 := by
  obtain ⟨A1, c1, rfl, l1, _⟩ := k51_open (Kd.FK_now h)
  exact ⟨A1, c1, rfl, l1, (fun W' hW => by obtain ⟨A1_, c1_, he, l1_, g1_⟩ := k51_open (h W' hW); injection (Option.some.inj (show some (Value.slice A1 x.f1.length c1) = some (Value.slice A1_ x.f1.length c1_) from congrArg (fun l => l[1]?) he)) with ha_ _ _; rw [ha_]; exact g1_)⟩
theorem k51_mkF (W : World) (ok : Nat → Prop) (x : S51) {A1 : Option Addr} {c1 : Nat} (l1 : x.f1.length ≤ c1) (g1 : Kd.F k51 W ok A1 x.f1.length x.f1) : Kd.FK k51 W ok x [.string x.f0, .slice A1 x.f1.length c1] := fun W2 hW => k51_mk W2 x l1 (g1 W2 hW)
def rd_T51 (xs : List S51) (i : Int) : S51 := xs.getD i.toNat z51
theorem at_T51 {w : World} {A : Option Addr} {n : Nat} {xs : List S51} (h : Kd.C k51 w A n xs) (i : Int) (h0 : 0 ≤ i) (h1 : i < n) : ∃ ad A1 c1, A = some ad ∧ w.cell? (ad.add (i.toNat * 2)) = some (.string (rd_T51 xs i).f0) ∧ w.cell? ⟨(ad.add (i.toNat * 2)).block, (ad.add (i.toNat * 2)).off + 1, none⟩ = some (.slice A1 (rd_T51 xs i).f1.length c1) ∧ (rd_T51 xs i).f1.length ≤ c1 ∧ k51.C w A1 (rd_T51 xs i).f1.length (rd_T51 xs i).f1 := by
  obtain ⟨ad, c, e, _, hK, hc0⟩ := Kd.C_get h z51 i h0 h1
  have hc : ∀ j u, c[j]? = some u → w.cell? (ad.add (i.toNat * 2 + j)) = some u := hc0
  obtain ⟨A1, c1, rfl, l1, g1⟩ := k51_open hK
  exact ⟨ad, A1, c1, e, hc 0 _ rfl, by rw [← add_field _ _ 1 (by omega)]; exact hc 1 _ rfl, l1, g1⟩
def rd_L10 (xs : List (List S51)) (i : Int) : (List S51) := xs.getD i.toNat ([] : List S51)
theorem at_L10 {w : World} {A : Option Addr} {n : Nat} {xs : List (List S51)} (h : Kd.C (Kd.slice 51 k51) w A n xs) (i : Int) (h0 : 0 ≤ i) (h1 : i < n) : ∃ ad A0 c0, A = some ad ∧ w.cell? (ad.add i.toNat) = some (.slice A0 (rd_L10 xs i).length c0) ∧ (rd_L10 xs i).length ≤ c0 ∧ k51.C w A0 (rd_L10 xs i).length (rd_L10 xs i) := by
  obtain ⟨ad, c, e, _, hK, hc0⟩ := Kd.C_get h ([] : List S51) i h0 h1
  have hc : ∀ j u, c[j]? = some u → w.cell? (ad.add (i.toNat * 1 + j)) = some u := hc0
  obtain ⟨A0, c0, rfl, l0, g0⟩ := hK
  exact ⟨ad, A0, c0, e, by have hq := hc 0 _ rfl; rwa [Nat.mul_one, Nat.add_zero] at hq, l0, g0⟩
structure S26 where
  f0 : Bool
  f1 : (List S51)
structure S38 where
  f0 : (List ByteArray)
  f1 : Int
def z38 : S38 := ⟨([] : List ByteArray), (0 : Int)⟩
def k38 : Kd S38 := Kd.iso (Kd.pair (Kd.slice 9 Kd.string) (Kd.int .i64)) (fun x : S38 => (x.f0, x.f1))
theorem k38_open {w : World} {x : S38} {cs : List Value} (h : k38.K w x cs) : ∃ A0 c0, cs = [.slice A0 x.f0.length c0, .int .i64 x.f1] ∧ x.f0.length ≤ c0 ∧ Kd.string.C w A0 x.f0.length x.f0 := by
  obtain ⟨_, _, rfl, ⟨A0, c0, rfl, l0, g0⟩, rfl⟩ := h
  exact ⟨A0, c0, rfl, l0, g0⟩
theorem k38_mkM (w : World) (base : Nat) (ok : Nat → Prop) (x : S38) {v0 : Value} (g0 : Kd.string.R 9 w base ok v0 x.f0) : k38.M w base ok x [v0, .int .i64 x.f1] := ⟨[v0], [.int .i64 x.f1], rfl, ⟨v0, rfl, g0⟩, rfl⟩
theorem k38_openF {W : World} {ok : Nat → Prop} {x : S38} {cs : List Value} (h : Kd.FK k38 W ok x cs) : ∃ A0 c0, cs = [.slice A0 x.f0.length c0, .int .i64 x.f1] ∧ x.f0.length ≤ c0 ∧ Kd.F Kd.string W ok A0 x.f0.length x.f0 := by
  obtain ⟨A0, c0, rfl, l0, _⟩ := k38_open (Kd.FK_now h)
  exact ⟨A0, c0, rfl, l0, (fun W' hW => by obtain ⟨A0_, c0_, he, l0_, g0_⟩ := k38_open (h W' hW); injection (Option.some.inj (show some (Value.slice A0 x.f0.length c0) = some (Value.slice A0_ x.f0.length c0_) from congrArg (fun l => l[0]?) he)) with ha_ _ _; rw [ha_]; exact g0_)⟩
def rd_T38 (xs : List S38) (i : Int) : S38 := xs.getD i.toNat z38
theorem at_T38 {w : World} {A : Option Addr} {n : Nat} {xs : List S38} (h : Kd.C k38 w A n xs) (i : Int) (h0 : 0 ≤ i) (h1 : i < n) : ∃ ad A0 c0, A = some ad ∧ w.cell? (ad.add (i.toNat * 2)) = some (.slice A0 (rd_T38 xs i).f0.length c0) ∧ w.cell? ⟨(ad.add (i.toNat * 2)).block, (ad.add (i.toNat * 2)).off + 1, none⟩ = some (.int .i64 (rd_T38 xs i).f1) ∧ (rd_T38 xs i).f0.length ≤ c0 ∧ Kd.string.C w A0 (rd_T38 xs i).f0.length (rd_T38 xs i).f0 := by
  obtain ⟨ad, c, e, _, hK, hc0⟩ := Kd.C_get h z38 i h0 h1
  have hc : ∀ j u, c[j]? = some u → w.cell? (ad.add (i.toNat * 2 + j)) = some u := hc0
  obtain ⟨A0, c0, rfl, l0, g0⟩ := k38_open hK
  exact ⟨ad, A0, c0, e, hc 0 _ rfl, by rw [← add_field _ _ 1 (by omega)]; exact hc 1 _ rfl, l0, g0⟩
structure S73 where
  f0 : ByteArray
  f1 : (List S73)
abbrev bA_ := @below_alloc
abbrev bN_ := @pw_below_drewN
abbrev bD_ := @below_drew1
abbrev vA_ := @Kd.V_alloc
abbrev vN_ := @Kd.V_drewN
abbrev vD_ := @Kd.V_drew
abbrev nA_ := @Kd.N_alloc
abbrev nN_ := @Kd.N_drewN
abbrev nD_ := @Kd.N_drew
abbrev rA_ := @Kd.R_alloc
abbrev rN_ := @Kd.R_drewN
abbrev rD_ := @Kd.R_drew
abbrev cA_ := @Kd.C_alloc
abbrev cN_ := @Kd.C_drewN
abbrev cD_ := @Kd.C_drew
end Go.Proofs.Ytainbaehfdhmbaa.PX
set_option linter.unusedVariables false
namespace Go.Proofs.Ytainbaehfdhmbaa
open Go.RowKit
abbrev Str:=List UInt8
def ba (l:Str):ByteArray:=⟨l.toArray⟩
end Go.Proofs.Ytainbaehfdhmbaa
namespace Go.Proofs.Ytainbaehfdhmbaa.PX
open Go.RowKit Go.Proofs.YtainbaehfdhmbaaW.PrintWords Go.Proofs.YtainbaehfdhmbaaW.PrintLast Go.Proofs.YtainbaehfdhmbaaW.PrintMore Go.Proofs.Ytainbaehfdhmbaa
def tl (b:ByteArray):Str:=b.data.toList
theorem ba_tl (b:ByteArray):ba (tl b)=b:=by cases b;simp [ba,tl]
theorem tl_ba (s:Str):tl (ba s)=s:=by simp [ba,tl]
theorem map_ba_tl (l:List ByteArray):(l.map tl).map ba=l:=by
 rw [List.map_map]
 have:(ba ∘ tl)=id:=funext fun b=>ba_tl b
 rw [this,List.map_id]
theorem map_tl_ba (l:List Str):(l.map ba).map tl=l:=by
 rw [List.map_map]
 have:(tl ∘ ba)=id:=funext fun b=>tl_ba b
 rw [this,List.map_id]
theorem tl_inj {a b:ByteArray} (h:tl a=tl b):a=b:=by rw [← ba_tl a,← ba_tl b,h]
theorem toList_tl (b:ByteArray):b.toList=tl b:=ByteArray.toList_eq b
theorem less_iff (a b:ByteArray):Op.bytesLess a.toList b.toList=true ↔ tl a < tl b:=by
 rw [toList_tl,toList_tl,Proofs.bytesLess_eq,decide_eq_true_eq]
theorem same_eq (a b:ByteArray):(a.toList == b.toList)=decide (a=b):=by
 rw [toList_tl,toList_tl,Bool.eq_iff_iff,beq_iff_eq,decide_eq_true_eq]
 exact ⟨tl_inj,fun h=>by rw [h]⟩
noncomputable instance (s:ByteArray) (l:List ByteArray):Decidable (s ∈ l):=Classical.propDecidable _
theorem Ev.up {α:Type} {g:Nat→Option α} {r:α} (h:Ev (fun k=>g (k+1)) r):Ev g r:=Ev.step (fun _=>rfl) h
theorem Ev.both {α:Type} {g:Nat→Option α} {r:α} (h:Ev g r):∃ k,g k=some r:=h.rounds
theorem Ev.fixed {α:Type} {x:Option α} {r:α} (h:x=some r):Ev (fun _=>x) r:=⟨0,fun _ _=>h⟩
theorem wrap_succ {i:Nat} (h:i < 4611686018427387904):wrap64 ((i:Int)+1)=((i+1:Nat):Int):=by unfold wrap64;omega
theorem wrap_nat {i:Nat} (h:i < 4611686018427387904):wrap64 (i:Int)=(i:Int):=by unfold wrap64;omega
theorem rdOf_nat {xs:List ByteArray} {i:Nat} (h:i < xs.length):rdOf ByteArray.empty xs (i:Int)=xs[i]:=by
 simp [rdOf,List.getD_eq_getElem?_getD,h]
theorem rdT_nat {xs:List S51} {i:Nat} (h:i < xs.length):rd_T51 xs (i:Int)=xs[i]:=by
 simp [rd_T51,List.getD_eq_getElem?_getD,h]
abbrev Tr:=List S51
def pos:Tr→ByteArray→Nat
 | [],_=>0
 | y :: t,n=>if tl y.f0 < tl n then pos t n+1 else 0
def hasAt:Tr→ByteArray→Bool
 | [],_=>false
 | y :: t,n=>if tl y.f0 < tl n then hasAt t n else decide (y.f0=n)
def Sorted (t:Tr):Prop:=t.Pairwise fun x y=>tl x.f0 < tl y.f0
instance (t:Tr):Decidable (Sorted t):=by unfold Sorted;exact inferInstance
theorem pos_le:∀ (t:Tr) (n:ByteArray),pos t n≤t.length
 | [],_=>Nat.le_refl _
 | y :: t,n=>by
  have:=pos_le t n
  unfold pos
  split <;> simp <;> omega
theorem pos_below:∀ (t:Tr) (n:ByteArray) (i:Nat) (h:i < t.length),i < pos t n→tl (t[i]).f0 < tl n
 | y :: t,n,i,h,hi=>by
  unfold pos at hi
  split at hi
  ·rename_i hy
   cases i with
   | zero=>exact hy
   | succ i=>exact pos_below t n i (by simpa using h) (by omega)
  ·omega
theorem pos_not:∀ (t:Tr) (n:ByteArray) (h:pos t n < t.length),¬ tl (t[pos t n]).f0 < tl n
 | y :: t,n,h=>by
  by_cases hy:tl y.f0 < tl n
  ·have e:pos (y :: t) n=pos t n+1:=by rw [pos,if_pos hy]
   simp only [e,List.getElem_cons_succ]
   exact pos_not t n (by rw [e] at h;simpa using h)
  ·have e:pos (y :: t) n=0:=by rw [pos,if_neg hy]
   simp only [e,List.getElem_cons_zero]
   exact hy
theorem pos_above:∀ (t:Tr) (n:ByteArray),Sorted t→∀ (i:Nat) (h:i < t.length),pos t n≤i→¬ tl (t[i]).f0 < tl n
 | y :: t,n,hs,i,h,hi=>by
  obtain ⟨h1,h2⟩:=List.pairwise_cons.1 hs
  unfold pos at hi
  split at hi
  ·cases i with
   | zero=>omega
   | succ i=>exact pos_above t n h2 i (by simpa using h) (by omega)
  ·rename_i hy
   cases i with
   | zero=>exact hy
   | succ i =>
    intro hlt
    exact hy (List.lt_trans (h1 _ (List.getElem_mem (by simpa using h))) hlt)
theorem hasAt_pos:∀ (t:Tr) (n:ByteArray),hasAt t n=if h:pos t n < t.length then decide ((t[pos t n]).f0=n) else false
 | [],n=>by simp [hasAt,pos]
 | y :: t,n=>by
  by_cases hy:tl y.f0 < tl n
  ·have e1:hasAt (y :: t) n=hasAt t n:=by rw [hasAt,if_pos hy]
   have e2:pos (y :: t) n=pos t n+1:=by rw [pos,if_pos hy]
   rw [e1,hasAt_pos t n]
   simp only [e2,List.length_cons,Nat.add_lt_add_iff_right,List.getElem_cons_succ]
  ·have e1:hasAt (y :: t) n=decide (y.f0=n):=by rw [hasAt,if_neg hy]
   have e2:pos (y :: t) n=0:=by rw [pos,if_neg hy]
   rw [e1]
   simp only [e2,List.length_cons,Nat.zero_lt_succ,dite_true,List.getElem_cons_zero]
end Go.Proofs.Ytainbaehfdhmbaa.PX
set_option linter.unusedVariables false
set_option linter.unusedSimpArgs false
namespace Go.Proofs.Ytainbaehfdhmbaa.PX
open Go.RowKit Go.Proofs.YtainbaehfdhmbaaW.PrintWords Go.Proofs.YtainbaehfdhmbaaW.PrintLast Go.Proofs.YtainbaehfdhmbaaW.PrintMore Go.Proofs.Ytainbaehfdhmbaa Go.Shelf
def idxN (p:Nat→Bool) (n:Nat):Int:=((List.range n).find? p).elim (-1) fun i=>(i:Int)
theorem idxN_hit {p:Nat→Bool} {n i:Nat} (h:i < n) (hp:p i=true) (hl:∀ j,j < i→p j=false):idxN p n=(i:Int):=by
 unfold idxN
 rw [List.find?_range_eq_some.2 ⟨hp,List.mem_range.2 h,fun j hj=>by rw [hl j hj];rfl⟩]
 rfl
theorem idxN_miss {p:Nat→Bool} {n:Nat} (hl:∀ j,j < n→p j=false):idxN p n = -1:=by
 unfold idxN
 rw [List.find?_range_eq_none.2 (fun j hj=>by rw [hl j hj];rfl)]
 rfl
theorem idxN_cases (p:Nat→Bool) (n:Nat):(∃ i,i < n∧p i=true∧(∀ j,j < i→p j=false)∧idxN p n=(i:Int))∨((∀ j,j < n→p j=false)∧idxN p n = -1):=by
 cases e:(List.range n).find? p with
 | none =>
  have h:=List.find?_range_eq_none.1 e
  have h':∀ j,j < n→p j=false:=fun j hj=>by simpa using h j hj
  exact .inr ⟨h',idxN_miss h'⟩
 | some i =>
  obtain ⟨h1,h2,h3⟩:=List.find?_range_eq_some.1 e
  have h':∀ j,j < i→p j=false:=fun j hj=>by simpa using h3 j hj
  exact .inl ⟨i,List.mem_range.1 h2,h1,h',idxN_hit (List.mem_range.1 h2) h1 h'⟩
def anyN (p:Nat→Bool) (n:Nat):Bool:=decide (0≤idxN p n)
theorem anyN_eq (p:Nat→Bool) (n:Nat):anyN p n=(List.range n).any p:=by
 unfold anyN
 rcases idxN_cases p n with ⟨i,h1,h2,h3,h4⟩|⟨h1,h2⟩
 ·rw [h4,decide_eq_true (by omega),(List.any_eq_true.2 ⟨i,List.mem_range.2 h1,h2⟩:(List.range n).any p=true)]
 ·rw [h2,decide_eq_false (by omega),(List.any_eq_false.2 fun j hj=>by rw [h1 j (List.mem_range.1 hj)];simp:(List.range n).any p=false)]
set_option maxHeartbeats 4000000 in
set_option maxRecDepth 100000 in
theorem idxF (g:Nat) (lb:Array Value) (eg:∀ args w,(callFunc g args).run Try.prog w=.ok (.enter g args) w) (A:Option Addr) (c:Nat) (l:List S56) (p:Nat→Bool) (w:World) (hC:Kd.C k56 w A l.length l) (hl:l.length≤1000000000000)
  (hp:∀ i (h:i < l.length) (W:World) (A1:Option Addr) (c1:Nat),Below w.heap.size w W→Kd.C Kd.string w A1 l[i].f0.f1.length l[i].f0.f1→l[i].f0.f1.length≤c1→Calls Try.prog g (#[.agg #[.bool l[i].f0.f0,.slice A1 l[i].f0.f1.length c1,.int .i64 l[i].f1,.bool l[i].f2]] ++ lb) W fun e w'=>e=.returned (.bool (p i))∧Below W.heap.size W w') :
  Calls Try.prog 57 #[.slice A l.length c,.func (.func g) #[] lb] w fun e w'=>e=.returned (.int .i64 (idxN p l.length))∧Below w.heap.size w w':=by
 have hu:=Try.underlying56
 have HC:=Aside0.mk hC
 have HP:=Aside0.mk hp
 clear hC hp
 generalize hn:l.length=n at hl ⊢
 have HN:=Aside0.mk hn
 clear hn
 generalize hr:idxN p n=r
 have HR:=Aside0.mk hr
 clear hr
 go_enter Try.func57,Try.ntmps57
 go_wp2
 go_loopg [5,8] n (fun gg _ s8 wr=>∃ kk:Nat,kk≤n∧n - kk≤gg∧s8=.int .i64 kk∧Aside0 (Below w.heap.size w wr)∧Aside0 (∀ j,j < kk→p j=false))
 case atStart=>exact ⟨0,Nat.zero_le _,by omega,rfl,⟨Below.refl _ w⟩,⟨fun j hj=>absurd hj (Nat.not_lt_zero _)⟩⟩
 case round =>
  obtain ⟨kk,hkk,hg,rfl,HB,PF⟩:=hrel
  by_cases hlt:kk < n
  ·have hm:kk < l.length:=by rw [HN.out];exact hlt
   obtain ⟨ad,A1,c1,rfl,hx0,hx1,hx2,hx3,hx4,hx5⟩:=at_T56 HC.out (kk:Int) (by omega) (by exact_mod_cast hm)
   rw [show rd_T56 l (kk:Int)=l[kk] by simp [rd_T56,List.getD_eq_getElem?_getD,hm]] at hx0 hx1 hx2 hx3 hx4 hx5
   replace hx0:=(HB.out.cell (World.block_lt_of_cell? w _ hx0)).trans hx0
   replace hx1:=(HB.out.cell (World.block_lt_of_cell? w _ hx1)).trans hx1
   replace hx2:=(HB.out.cell (World.block_lt_of_cell? w _ hx2)).trans hx2
   replace hx3:=(HB.out.cell (World.block_lt_of_cell? w _ hx3)).trans hx3
   have hcall:=HP.out kk hm wr A1 c1 HB.out hx5 hx4
   clear hx4 hx5
   simp only [Int.toNat_natCast] at hx0 hx1 hx2 hx3
   generalize (l[kk]).f0.f1.length=m1 at hx1 hcall
   generalize (l[kk]).f0.f0=y0 at hx0 hcall
   generalize (l[kk]).f1=y2 at hx2 hcall
   generalize (l[kk]).f2=y3 at hx3 hcall
   clear hm
   have hltz:(kk:Int) < (n:Int):=by omega
   cases hq:p kk with
   | true =>
    rw [hq] at hcall
    have HQ:=Aside0.mk hq
    clear hq
    go_wp2_with (go_at_fn g;refine hcall.mono ?_;rintro e w' ⟨rfl,hb'⟩)
    go_ret
    refine ⟨?_,below_then HB.out HB.out.size hb'⟩
    rw [← HR.out,idxN_hit hlt HQ.out PF.out]
    rfl
   | false =>
    rw [hq] at hcall
    have HQ:=Aside0.mk hq
    clear hq
    go_wp2_with (go_at_fn g;refine hcall.mono ?_;rintro e w' ⟨rfl,hb'⟩)
    go_roundg (n - (kk+1))
    case measure=>omega
    case rel =>
     refine ⟨kk+1,by omega,by omega,by go_num,⟨below_then HB.out HB.out.size hb'⟩,⟨fun j hj=>?_⟩⟩
     by_cases e:j=kk
     ·subst e
      exact HQ.out
     ·exact PF.out j (by omega)
  ·have hltz:¬ (kk:Int) < (n:Int):=by omega
   have:kk=n:=by omega
   subst this
   go_wp2
   go_ret
   refine ⟨?_,HB.out⟩
   rw [← HR.out,idxN_miss PF.out]
   rfl
set_option maxHeartbeats 4000000 in
set_option maxRecDepth 100000 in
theorem idxE (g:Nat) (lb:Array Value) (eg:∀ args w,(callFunc g args).run Try.prog w=.ok (.enter g args) w) (A:Option Addr) (c:Nat) (l:List S51) (p:Nat→Bool) (w:World) (hC:Kd.C k51 w A l.length l) (hl:l.length≤1000000000000)
  (hp:∀ i (h:i < l.length) (W:World) (A1:Option Addr) (c1:Nat),Below w.heap.size w W→Kd.C k51 w A1 l[i].f1.length l[i].f1→l[i].f1.length≤c1→Calls Try.prog g (#[.agg #[.string l[i].f0,.slice A1 l[i].f1.length c1]] ++ lb) W fun e w'=>e=.returned (.bool (p i))∧Below W.heap.size W w') :
  Calls Try.prog 58 #[.slice A l.length c,.func (.func g) #[] lb] w fun e w'=>e=.returned (.int .i64 (idxN p l.length))∧Below w.heap.size w w':=by
 have hu:=Try.underlying51
 have HC:=Aside0.mk hC
 have HP:=Aside0.mk hp
 clear hC hp
 generalize hn:l.length=n at hl ⊢
 have HN:=Aside0.mk hn
 clear hn
 generalize hr:idxN p n=r
 have HR:=Aside0.mk hr
 clear hr
 go_enter Try.func58,Try.ntmps58
 go_wp2
 go_loopg [5,8] n (fun gg _ s8 wr=>∃ kk:Nat,kk≤n∧n - kk≤gg∧s8=.int .i64 kk∧Aside0 (Below w.heap.size w wr)∧Aside0 (∀ j,j < kk→p j=false))
 case atStart=>exact ⟨0,Nat.zero_le _,by omega,rfl,⟨Below.refl _ w⟩,⟨fun j hj=>absurd hj (Nat.not_lt_zero _)⟩⟩
 case round =>
  obtain ⟨kk,hkk,hg,rfl,HB,PF⟩:=hrel
  by_cases hlt:kk < n
  ·have hm:kk < l.length:=by rw [HN.out];exact hlt
   obtain ⟨ad,A1,c1,rfl,hx0,hx1,hx4,hx5⟩:=at_T51 HC.out (kk:Int) (by omega) (by exact_mod_cast hm)
   rw [show rd_T51 l (kk:Int)=l[kk] by simp [rd_T51,List.getD_eq_getElem?_getD,hm]] at hx0 hx1 hx4 hx5
   replace hx0:=(HB.out.cell (World.block_lt_of_cell? w _ hx0)).trans hx0
   replace hx1:=(HB.out.cell (World.block_lt_of_cell? w _ hx1)).trans hx1
   have hcall:=HP.out kk hm wr A1 c1 HB.out hx5 hx4
   clear hx4 hx5
   simp only [Int.toNat_natCast] at hx0 hx1
   generalize (l[kk]).f1.length=m1 at hx1 hcall
   generalize (l[kk]).f0=y0 at hx0 hcall
   clear hm
   have hltz:(kk:Int) < (n:Int):=by omega
   cases hq:p kk with
   | true =>
    rw [hq] at hcall
    have HQ:=Aside0.mk hq
    clear hq
    go_wp2_with (go_at_fn g;refine hcall.mono ?_;rintro e w' ⟨rfl,hb'⟩)
    go_ret
    refine ⟨?_,below_then HB.out HB.out.size hb'⟩
    rw [← HR.out,idxN_hit hlt HQ.out PF.out]
    rfl
   | false =>
    rw [hq] at hcall
    have HQ:=Aside0.mk hq
    clear hq
    go_wp2_with (go_at_fn g;refine hcall.mono ?_;rintro e w' ⟨rfl,hb'⟩)
    go_roundg (n - (kk+1))
    case measure=>omega
    case rel =>
     refine ⟨kk+1,by omega,by omega,by go_num,⟨below_then HB.out HB.out.size hb'⟩,⟨fun j hj=>?_⟩⟩
     by_cases e:j=kk
     ·subst e
      exact HQ.out
     ·exact PF.out j (by omega)
  ·have hltz:¬ (kk:Int) < (n:Int):=by omega
   have:kk=n:=by omega
   subst this
   go_wp2
   go_ret
   refine ⟨?_,HB.out⟩
   rw [← HR.out,idxN_miss PF.out]
   rfl
set_option maxHeartbeats 4000000 in
set_option maxRecDepth 100000 in
theorem idxS (g:Nat) (lb:Array Value) (eg:∀ args w,(callFunc g args).run Try.prog w=.ok (.enter g args) w) (A:Option Addr) (c:Nat) (l:List ByteArray) (p:Nat→Bool) (w:World) (hC:Kd.C Kd.string w A l.length l) (hl:l.length≤1000000000000)
  (hp:∀ i (h:i < l.length) (W:World),Below w.heap.size w W→Calls Try.prog g (#[.string l[i]] ++ lb) W fun e w'=>e=.returned (.bool (p i))∧Below W.heap.size W w') :
  Calls Try.prog 64 #[.slice A l.length c,.func (.func g) #[] lb] w fun e w'=>e=.returned (.int .i64 (idxN p l.length))∧Below w.heap.size w w':=by
 have HC:=Aside0.mk hC
 have HP:=Aside0.mk hp
 clear hC hp
 generalize hn:l.length=n at hl ⊢
 have HN:=Aside0.mk hn
 clear hn
 generalize hr:idxN p n=r
 have HR:=Aside0.mk hr
 clear hr
 go_enter Try.func64,Try.ntmps64
 go_wp2
 go_loopg [5,8] n (fun gg _ s8 wr=>∃ kk:Nat,kk≤n∧n - kk≤gg∧s8=.int .i64 kk∧Aside0 (Below w.heap.size w wr)∧Aside0 (∀ j,j < kk→p j=false))
 case atStart=>exact ⟨0,Nat.zero_le _,by omega,rfl,⟨Below.refl _ w⟩,⟨fun j hj=>absurd hj (Nat.not_lt_zero _)⟩⟩
 case round =>
  obtain ⟨kk,hkk,hg,rfl,HB,PF⟩:=hrel
  by_cases hlt:kk < n
  ·have hm:kk < l.length:=by rw [HN.out];exact hlt
   obtain ⟨ad,rfl,hx0⟩:=Kd.at_string HC.out (kk:Int) (by omega) (by exact_mod_cast hm)
   rw [rdOf_nat hm] at hx0
   replace hx0:=(HB.out.cell (World.block_lt_of_cell? w _ hx0)).trans hx0
   have hcall:=HP.out kk hm wr HB.out
   simp only [Int.toNat_natCast] at hx0
   generalize l[kk]=y0 at hx0 hcall
   clear hm
   have hltz:(kk:Int) < (n:Int):=by omega
   cases hq:p kk with
   | true =>
    rw [hq] at hcall
    have HQ:=Aside0.mk hq
    clear hq
    go_wp2_with (go_at_fn g;refine hcall.mono ?_;rintro e w' ⟨rfl,hb'⟩)
    go_ret
    refine ⟨?_,below_then HB.out HB.out.size hb'⟩
    rw [← HR.out,idxN_hit hlt HQ.out PF.out]
    rfl
   | false =>
    rw [hq] at hcall
    have HQ:=Aside0.mk hq
    clear hq
    go_wp2_with (go_at_fn g;refine hcall.mono ?_;rintro e w' ⟨rfl,hb'⟩)
    go_roundg (n - (kk+1))
    case measure=>omega
    case rel =>
     refine ⟨kk+1,by omega,by omega,by go_num,⟨below_then HB.out HB.out.size hb'⟩,⟨fun j hj=>?_⟩⟩
     by_cases e:j=kk
     ·subst e
      exact HQ.out
     ·exact PF.out j (by omega)
  ·have hltz:¬ (kk:Int) < (n:Int):=by omega
   have:kk=n:=by omega
   subst this
   go_wp2
   go_ret
   refine ⟨?_,HB.out⟩
   rw [← HR.out,idxN_miss PF.out]
   rfl
theorem anyF (g:Nat) (lb:Array Value) (eg:∀ args w,(callFunc g args).run Try.prog w=.ok (.enter g args) w) (A:Option Addr) (c:Nat) (l:List S56) (p:Nat→Bool) (w:World) (hC:Kd.C k56 w A l.length l) (hl:l.length≤1000000000000)
  (hp:∀ i (h:i < l.length) (W:World) (A1:Option Addr) (c1:Nat),Below w.heap.size w W→Kd.C Kd.string w A1 l[i].f0.f1.length l[i].f0.f1→l[i].f0.f1.length≤c1→Calls Try.prog g (#[.agg #[.bool l[i].f0.f0,.slice A1 l[i].f0.f1.length c1,.int .i64 l[i].f1,.bool l[i].f2]] ++ lb) W fun e w'=>e=.returned (.bool (p i))∧Below W.heap.size W w') :
  Calls Try.prog 43 #[.slice A l.length c,.func (.func g) #[] lb] w fun e w'=>e=.returned (.bool (anyN p l.length))∧Below w.heap.size w w':=by
 have hc:=idxF g lb eg A c l p w hC hl hp
 clear hC hp
 unfold anyN
 generalize l.length=n at hc hl ⊢
 generalize idxN p n=r at hc ⊢
 go_enter Try.func43,Try.ntmps43
 go_wp2_with (go_at_call 57;refine hc.mono ?_;rintro e w' ⟨rfl,hb'⟩)
 go_ret
 exact ⟨rfl,hb'⟩
theorem anyE (g:Nat) (lb:Array Value) (eg:∀ args w,(callFunc g args).run Try.prog w=.ok (.enter g args) w) (A:Option Addr) (c:Nat) (l:List S51) (p:Nat→Bool) (w:World) (hC:Kd.C k51 w A l.length l) (hl:l.length≤1000000000000)
  (hp:∀ i (h:i < l.length) (W:World) (A1:Option Addr) (c1:Nat),Below w.heap.size w W→Kd.C k51 w A1 l[i].f1.length l[i].f1→l[i].f1.length≤c1→Calls Try.prog g (#[.agg #[.string l[i].f0,.slice A1 l[i].f1.length c1]] ++ lb) W fun e w'=>e=.returned (.bool (p i))∧Below W.heap.size W w') :
  Calls Try.prog 44 #[.slice A l.length c,.func (.func g) #[] lb] w fun e w'=>e=.returned (.bool (anyN p l.length))∧Below w.heap.size w w':=by
 have hc:=idxE g lb eg A c l p w hC hl hp
 clear hC hp
 unfold anyN
 generalize l.length=n at hc hl ⊢
 generalize idxN p n=r at hc ⊢
 go_enter Try.func44,Try.ntmps44
 go_wp2_with (go_at_call 58;refine hc.mono ?_;rintro e w' ⟨rfl,hb'⟩)
 go_ret
 exact ⟨rfl,hb'⟩
theorem anyS (g:Nat) (lb:Array Value) (eg:∀ args w,(callFunc g args).run Try.prog w=.ok (.enter g args) w) (A:Option Addr) (c:Nat) (l:List ByteArray) (p:Nat→Bool) (w:World) (hC:Kd.C Kd.string w A l.length l) (hl:l.length≤1000000000000)
  (hp:∀ i (h:i < l.length) (W:World),Below w.heap.size w W→Calls Try.prog g (#[.string l[i]] ++ lb) W fun e w'=>e=.returned (.bool (p i))∧Below W.heap.size W w') :
  Calls Try.prog 55 #[.slice A l.length c,.func (.func g) #[] lb] w fun e w'=>e=.returned (.bool (anyN p l.length))∧Below w.heap.size w w':=by
 have hc:=idxS g lb eg A c l p w hC hl hp
 clear hC hp
 unfold anyN
 generalize l.length=n at hc hl ⊢
 generalize idxN p n=r at hc ⊢
 go_enter Try.func55,Try.ntmps55
 go_wp2_with (go_at_call 64;refine hc.mono ?_;rintro e w' ⟨rfl,hb'⟩)
 go_ret
 exact ⟨rfl,hb'⟩
theorem firstF (g:Nat) (lb:Array Value) (eg:∀ args w,(callFunc g args).run Try.prog w=.ok (.enter g args) w) (A:Option Addr) (c:Nat) (l:List S56) (p:Nat→Bool) (w:World) (hC:Kd.C k56 w A l.length l) (hl:l.length≤1000000000000)
  (hp:∀ i (h:i < l.length) (W:World) (A1:Option Addr) (c1:Nat),Below w.heap.size w W→Kd.C Kd.string w A1 l[i].f0.f1.length l[i].f0.f1→l[i].f0.f1.length≤c1→Calls Try.prog g (#[.agg #[.bool l[i].f0.f0,.slice A1 l[i].f0.f1.length c1,.int .i64 l[i].f1,.bool l[i].f2]] ++ lb) W fun e w'=>e=.returned (.bool (p i))∧Below W.heap.size W w') :
  Calls Try.prog 50 #[.slice A l.length c,.func (.func g) #[] lb] w fun e w'=>e=.returned (.int .i64 (idxN p l.length))∧Below w.heap.size w w':=by
 have hc:=idxF g lb eg A c l p w hC hl hp
 clear hC hp
 generalize l.length=n at hc hl ⊢
 generalize idxN p n=r at hc ⊢
 go_enter Try.func50,Try.ntmps50
 go_wp2_with (go_at_call 57;refine hc.mono ?_;rintro e w' ⟨rfl,hb'⟩)
 go_ret
 exact ⟨rfl,hb'⟩
end Go.Proofs.Ytainbaehfdhmbaa.PX
namespace Go.Proofs.Ytainbaehfdhmbaa.PX
open Go.RowKit Go.Proofs.YtainbaehfdhmbaaW.PrintWords Go.Proofs.YtainbaehfdhmbaaW.PrintLast Go.Proofs.YtainbaehfdhmbaaW.PrintMore
attribute [local go_sem] max2_int min2_int max_two min_two max_three min_three max_four min_four   
set_option linter.unusedVariables false
set_option linter.unusedSimpArgs false
def slices_Index_string_string.l0:Nat→List ByteArray→ByteArray→Int→Int→Option (Int)
 | 0,_,_,_,_=>none
 | k+1,x0,x1,x7,x8=>if x8 < x7 then (if 0≤x8 then (if x8 < (x0.length:Int) then (if x1.toList=(rdOf ByteArray.empty x0 x8).toList then (some x8) else (slices_Index_string_string.l0 k x0 x1 x7 (wrap64 (x8+1)))) else (none)) else (none)) else (some (-1))
def slices_Index_string_string.f (k:Nat) (l0:List ByteArray) (a1:ByteArray):Option (Int):=slices_Index_string_string.l0 k l0 a1 (l0.length:Int) 0
theorem slices_Index_string_string.mono_l:∀ k,(∀ y0 y1 y2 y3,LeO (slices_Index_string_string.l0 k y0 y1 y2 y3) (slices_Index_string_string.l0 (k+1) y0 y1 y2 y3))
 | 0=>fun _ _ _ _ r h=>by simp [slices_Index_string_string.l0] at h
 | k+1=>by
  have ih0:=slices_Index_string_string.mono_l k
  ·intro y0 y1 y2 y3
   unfold slices_Index_string_string.l0
   repeat' first
   | (with_reducible exact ih0 _ _ _ _)
   | (with_reducible exact LeO.refl _)
   | (with_reducible exact LeO.none _)
   | (with_reducible refine LeO.ite ?_ ?_)
   | (with_reducible refine LeO.bind ?_ (fun _=>?_))
   | exact ih0 _ _ _ _
   | exact LeO.none _
   | refine LeO.ite ?_ ?_
   | refine LeO.bind ?_ (fun _=>?_)
theorem slices_Index_string_string.mono:∀ a0 a1 k,LeO (slices_Index_string_string.f k a0 a1) (slices_Index_string_string.f (k+1) a0 a1):=by
 intro a0 a1 k
 have ih0:=slices_Index_string_string.mono_l k
 unfold slices_Index_string_string.f
 repeat' first
   | (with_reducible exact ih0 _ _ _ _)
   | (with_reducible exact LeO.refl _)
   | (with_reducible exact LeO.none _)
   | (with_reducible refine LeO.ite ?_ ?_)
   | (with_reducible refine LeO.bind ?_ (fun _=>?_))
   | exact ih0 _ _ _ _
   | exact LeO.none _
   | refine LeO.ite ?_ ?_
   | refine LeO.bind ?_ (fun _=>?_)
set_option maxHeartbeats 8000000 in
set_option maxRecDepth 100000 in
theorem slices_Index_string_string.calls (k:Nat) (A0:Option Addr) (c0:Nat) (l0:List ByteArray) (a1:ByteArray) (r:Int) (w:World) (hr0:Kd.C Kd.string w A0 l0.length l0) (hc0:l0.length≤c0) (h:slices_Index_string_string.f k l0 a1=some r) :
  Calls Try.prog 79 #[.slice A0 l0.length c0,.string a1] w fun e w'=>e=.returned (.int .i64 r)∧Drawn0 w w':=by
 have HR0:=Aside0.mk hr0
 have HC0:=Aside0.mk hc0
 clear hr0 hc0
 have H:(slices_Index_string_string.l0 k l0 a1 (l0.length:Int) 0)=some r:=h
 clear h
 have H':=Aside0.mk H
 clear H
 go_enter Try.func79,Try.ntmps79
 go_wp2
 go_loopg [8] k (fun kq v8 w'=>∃ (x8_1:Int),v8=.int .i64 x8_1∧Aside0 (slices_Index_string_string.l0 kq l0 a1 (l0.length:Int) x8_1=some r)∧Aside0 (kq≤k)∧Drawn0 w w')
 case atStart=>exact ⟨(0),(by first|rfl|(simp;done)|(simp [*];done)),H',⟨Nat.le_refl _⟩,by repeat (first|exact Drawn0.refl _|apply Drawn0.step)⟩
 case round =>
  clear H'
  try clear p2
  obtain ⟨x8_1,rfl,HA,HK1,⟨m1,rfl⟩⟩:=hrel
  cases gk with
  | zero=>exact absurd HA.out (by simp [slices_Index_string_string.l0])
  | succ k1 =>
   have H:=HA.out
   clear HA
   simp only [slices_Index_string_string.l0] at H
   by_cases c3:x8_1 < (l0.length:Int)
   ·rw [if_pos c3] at H
    have c3b0:decide (x8_1 < (l0.length:Int))=true:=decide_eq_true c3
    clear c3
    by_cases c4:0≤x8_1
    ·rw [if_pos c4] at H
     have c4b0:decide (0≤x8_1)=true:=decide_eq_true c4
     clear c4
     by_cases c5:x8_1 < (l0.length:Int)
     ·rw [if_pos c5] at H
      have c5b0:decide (x8_1 < (l0.length:Int))=true:=decide_eq_true c5
      clear c5
      by_cases c6:a1.toList=(rdOf ByteArray.empty l0 x8_1).toList
      ·rw [if_pos c6] at H
       have c6b0:(a1.toList == (rdOf ByteArray.empty l0 x8_1).toList)=true:=beq_iff_eq.mpr c6
       have c6b1:(a1.toList != (rdOf ByteArray.empty l0 x8_1).toList)=false:=bne_eq_false_iff_eq.mpr c6
       clear c6
       obtain rfl:=Option.some.inj H
       have p543:0≤(x8_1:Int):=of_decide_eq_true (by first|(with_reducible assumption)|assumption)
       have q543:x8_1 < (l0.length:Int):=of_decide_eq_true (by first|(with_reducible assumption)|assumption)
       obtain ⟨ad543,e543,hx543_0⟩:=Kd.at_string HR0.out x8_1 p543 q543
       cases e543
       replace p543:=eq_true p543
       replace q543:=eq_true q543
       go_wp2
       go_ret
       exact ⟨by first|rfl|(simp;done)|(simp [*];done),by repeat (first|exact Drawn0.refl _|apply Drawn0.step)⟩
      ·rw [if_neg c6] at H
       have c6b0:(a1.toList == (rdOf ByteArray.empty l0 x8_1).toList)=false:=beq_eq_false_iff_ne.mpr c6
       have c6b1:(a1.toList != (rdOf ByteArray.empty l0 x8_1).toList)=true:=bne_iff_ne.mpr c6
       have H':=Aside0.mk H
       clear H
       have p543:0≤(x8_1:Int):=of_decide_eq_true (by first|(with_reducible assumption)|assumption)
       have q543:x8_1 < (l0.length:Int):=of_decide_eq_true (by first|(with_reducible assumption)|assumption)
       obtain ⟨ad543,e543,hx543_0⟩:=Kd.at_string HR0.out x8_1 p543 q543
       cases e543
       replace p543:=eq_true p543
       replace q543:=eq_true q543
       go_wp2
       go_roundg k1
       case measure=>have:=HK1.out;omega
       case rel=>exact ⟨(wrap64 (x8_1+1)),(by first|rfl|(simp;done)|(simp [*];done)),H',⟨by have:=HK1.out;omega⟩,by repeat (first|exact Drawn0.refl _|apply Drawn0.step)⟩
     ·rw [if_neg c5] at H
      exact absurd H (by simp)
    ·rw [if_neg c4] at H
     exact absurd H (by simp)
   ·rw [if_neg c3] at H
    have c3b0:decide (x8_1 < (l0.length:Int))=false:=decide_eq_false c3
    clear c3
    obtain rfl:=Option.some.inj H
    go_wp2
    go_ret
    exact ⟨by first|rfl|(simp;done)|(simp [*];done),by repeat (first|exact Drawn0.refl _|apply Drawn0.step)⟩
end Go.Proofs.Ytainbaehfdhmbaa.PX
namespace Go.Proofs.Ytainbaehfdhmbaa.PX
open Go.RowKit Go.Proofs.YtainbaehfdhmbaaW.PrintWords Go.Proofs.YtainbaehfdhmbaaW.PrintLast Go.Proofs.YtainbaehfdhmbaaW.PrintMore
attribute [local go_sem] max2_int min2_int max_two min_two max_three min_three max_four min_four   
set_option linter.unusedVariables false
set_option linter.unusedSimpArgs false
def slices_Contains_string_string.f (k:Nat) (l0:List ByteArray) (a1:ByteArray):Option (Bool):=(slices_Index_string_string.f k l0 a1).bind fun t544=>(some (decide (t544 ≥ 0)))
theorem slices_Contains_string_string.mono:∀ a0 a1 k,LeO (slices_Contains_string_string.f k a0 a1) (slices_Contains_string_string.f (k+1) a0 a1):=by
 intro a0 a1 k
 unfold slices_Contains_string_string.f
 repeat' first
   | (with_reducible exact slices_Index_string_string.mono _ _ _)
   | (with_reducible exact LeO.refl _)
   | (with_reducible exact LeO.none _)
   | (with_reducible refine LeO.ite ?_ ?_)
   | (with_reducible refine LeO.bind ?_ (fun _=>?_))
   | exact slices_Index_string_string.mono _ _ _
   | exact LeO.none _
   | refine LeO.ite ?_ ?_
   | refine LeO.bind ?_ (fun _=>?_)
set_option maxHeartbeats 8000000 in
set_option maxRecDepth 100000 in
theorem slices_Contains_string_string.calls (k:Nat) (A0:Option Addr) (c0:Nat) (l0:List ByteArray) (a1:ByteArray) (r:Bool) (w:World) (hr0:Kd.C Kd.string w A0 l0.length l0) (hc0:l0.length≤c0) (h:slices_Contains_string_string.f k l0 a1=some r) :
  Calls Try.prog 63 #[.slice A0 l0.length c0,.string a1] w fun e w'=>e=.returned (.bool r)∧Drawn0 w w':=by
 have HR0:=Aside0.mk hr0
 have HC0:=Aside0.mk hc0
 clear hr0 hc0
 have H:((slices_Index_string_string.f k l0 a1).bind fun t544=>(some (decide (t544 ≥ 0))))=some r:=h
 clear h
 replace H:=Option.bind_eq_some_iff.mp H
 obtain ⟨t544,A30,H⟩:=H
 replace H:(some (decide (t544 ≥ 0)))=some r:=H
 have A3:=Aside0.mk A30
 clear A30
 obtain rfl:=Option.some.inj H
 go_enter Try.func63,Try.ntmps63
 go_wp2_with (first|((with_reducible refine gate_callee (f:=79) rfl ?_);refine goesL_ (some 7) rfl rfl Try.func79 (by kernel_rfl) rfl #[.slice A0 l0.length c0,.string a1] rfl (by (try simp only [List.map_toArray,List.map_cons,List.map_nil]);first|done|rfl|(simp only [List.length_drop,List.length_take];rfl)) ?_;(with_reducible refine (slices_Index_string_string.calls k _ _ l0 a1 t544 _ ?side1 ?side2 A3.out).mono ?_);(case side1=>repeat (first|exact HR0.out|(with_reducible refine cA_ ?_ _)|(with_reducible refine cN_ ?_ _)|(with_reducible refine cD_ ?_)));(case side2=>exact HC0.out);rintro e w' ⟨rfl,⟨nd,rfl⟩⟩;refine ⟨_,rfl,?_⟩))
 go_ret
 exact ⟨by first|rfl|(simp;done)|(simp [*];done),by repeat (first|exact Drawn0.refl _|apply Drawn0.step)⟩
end Go.Proofs.Ytainbaehfdhmbaa.PX
namespace Go.Proofs.Ytainbaehfdhmbaa.PX
open Go.RowKit Go.Proofs.YtainbaehfdhmbaaW.PrintWords Go.Proofs.YtainbaehfdhmbaaW.PrintLast Go.Proofs.YtainbaehfdhmbaaW.PrintMore
attribute [local go_sem] max2_int min2_int max_two min_two max_three min_three max_four min_four   
set_option linter.unusedVariables false
set_option linter.unusedSimpArgs false
def names_Has.f (k:Nat) (a0_0:Bool) (l0_1:List ByteArray) (a1:ByteArray):Option (Bool):=(slices_Contains_string_string.f k l0_1 a1).bind fun t546=>(some (t546 != a0_0))
theorem names_Has.mono:∀ a0 a1 a2 k,LeO (names_Has.f k a0 a1 a2) (names_Has.f (k+1) a0 a1 a2):=by
 intro a0 a1 a2 k
 unfold names_Has.f
 repeat' first
   | (with_reducible exact slices_Contains_string_string.mono _ _ _)
   | (with_reducible exact LeO.refl _)
   | (with_reducible exact LeO.none _)
   | (with_reducible refine LeO.ite ?_ ?_)
   | (with_reducible refine LeO.bind ?_ (fun _=>?_))
   | exact slices_Contains_string_string.mono _ _ _
   | exact LeO.none _
   | refine LeO.ite ?_ ?_
   | refine LeO.bind ?_ (fun _=>?_)
set_option maxHeartbeats 8000000 in
set_option maxRecDepth 100000 in
theorem names_Has.calls (k:Nat) (a0_0:Bool) (A0_1:Option Addr) (c0_1:Nat) (l0_1:List ByteArray) (a1:ByteArray) (r:Bool) (w:World) (hr0_1:Kd.C Kd.string w A0_1 l0_1.length l0_1) (hc0_1:l0_1.length≤c0_1) (h:names_Has.f k a0_0 l0_1 a1=some r) :
  Calls Try.prog 52 #[.agg #[.bool a0_0,.slice A0_1 l0_1.length c0_1],.string a1] w fun e w'=>e=.returned (.bool r)∧Below w.heap.size w w':=by
 have hu54:=Try.underlying54
 have HR0_1:=Aside0.mk hr0_1
 have HC0_1:=Aside0.mk hc0_1
 clear hr0_1 hc0_1
 have HB:=Aside0.mk (Below.refl w.heap.size w)
 have H:((slices_Contains_string_string.f k l0_1 a1).bind fun t546=>(some (t546 != a0_0)))=some r:=h
 clear h
 replace H:=Option.bind_eq_some_iff.mp H
 obtain ⟨t546,A30,H⟩:=H
 replace H:(some (t546 != a0_0))=some r:=H
 have A3:=Aside0.mk A30
 clear A30
 obtain rfl:=Option.some.inj H
 go_enter Try.func52,Try.ntmps52
 go_wp2_with (first|((with_reducible refine gate_dst (N:=2) rfl ?_);refine box_event ?hg (N:=2) ?hd (cs:=#[.bool a0_0,.slice A0_1 l0_1.length c0_1]) (t:=54) ?hr ?_;(case hd=>rfl);(case hg=>rfl);(case hr=>first|(go_simp;done)|(go_simp;rfl));intro gb545 hg w4 hbox hb;have n0_:=Aside0.mk (below_step (by repeat (first|(with_reducible first|exact HB.out|apply bA_|apply bN_|apply bD_)|exact HB.out)) hb);have n1_:=Aside0.mk (hbox);have n2_:=Aside0.mk ((by rw [hg];exact (below_size (by repeat (first|(with_reducible first|exact HB.out|apply bA_|apply bN_|apply bD_)|exact HB.out))):w.heap.size≤gb545));have n3_:=Aside0.mk ((by rw [hg];exact (below_size (by repeat (first|(with_reducible first|exact HB.out|apply bA_|apply bN_|apply bD_)|exact HB.out))):w.heap.size≤gb545));clear HB;have HB:=n0_;have BK545:=n1_;have GW545:=n2_;have GE545:=n3_;clear n0_ n1_ n2_ n3_;clear hb hbox hg;have hcz5_0:w4.cell? ⟨gb545,0,none⟩=some (.bool a0_0):=(blk_cell BK545.out 0).trans rfl;have hcz5_1:w4.cell? ⟨gb545,1,none⟩=some (.slice A0_1 l0_1.length c0_1):=(blk_cell BK545.out 1).trans rfl;have hfz5_0:=blk_frozen BK545.out 0;have hfz5_1:=blk_frozen BK545.out 1)|(go_at_call 63;(with_reducible refine (slices_Contains_string_string.calls k _ _ l0_1 a1 t546 _ ?side1 ?side2 A3.out).mono ?_);(case side1=>repeat (first|exact (Kd.C_below HR0_1.out HB.out)|(with_reducible refine cA_ ?_ _)|(with_reducible refine cN_ ?_ _)|(with_reducible refine cD_ ?_)));(case side2=>exact HC0_1.out);rintro e w' ⟨rfl,⟨nd,rfl⟩⟩;(try first|exact ⟨rfl,_,World.drewN_drewN _ _ _⟩|exact ⟨rfl,_,Eq.trans (World.drewN_drewN _ _ _) (congrArg (World.drewN _) (Nat.add_assoc _ _ _))⟩)))
 repeat (go_quiet (first|((with_reducible refine gate_dst (N:=2) rfl ?_);refine box_event ?hg (N:=2) ?hd (cs:=#[.bool a0_0,.slice A0_1 l0_1.length c0_1]) (t:=54) ?hr ?_;(case hd=>rfl);(case hg=>rfl);(case hr=>first|(go_simp;done)|(go_simp;rfl));intro gb545 hg w4 hbox hb;have n0_:=Aside0.mk (below_step (by repeat (first|(with_reducible first|exact HB.out|apply bA_|apply bN_|apply bD_)|exact HB.out)) hb);have n1_:=Aside0.mk (hbox);have n2_:=Aside0.mk ((by rw [hg];exact (below_size (by repeat (first|(with_reducible first|exact HB.out|apply bA_|apply bN_|apply bD_)|exact HB.out))):w.heap.size≤gb545));have n3_:=Aside0.mk ((by rw [hg];exact (below_size (by repeat (first|(with_reducible first|exact HB.out|apply bA_|apply bN_|apply bD_)|exact HB.out))):w.heap.size≤gb545));clear HB;have HB:=n0_;have BK545:=n1_;have GW545:=n2_;have GE545:=n3_;clear n0_ n1_ n2_ n3_;clear hb hbox hg;have hcz5_0:w4.cell? ⟨gb545,0,none⟩=some (.bool a0_0):=(blk_cell BK545.out 0).trans rfl;have hcz5_1:w4.cell? ⟨gb545,1,none⟩=some (.slice A0_1 l0_1.length c0_1):=(blk_cell BK545.out 1).trans rfl;have hfz5_0:=blk_frozen BK545.out 0;have hfz5_1:=blk_frozen BK545.out 1)|(go_at_call 63;(with_reducible refine (slices_Contains_string_string.calls k _ _ l0_1 a1 t546 _ ?side1 ?side2 A3.out).mono ?_);(case side1=>repeat (first|exact (Kd.C_below HR0_1.out HB.out)|(with_reducible refine cA_ ?_ _)|(with_reducible refine cN_ ?_ _)|(with_reducible refine cD_ ?_)));(case side2=>exact HC0_1.out);rintro e w' ⟨rfl,⟨nd,rfl⟩⟩;(try first|exact ⟨rfl,_,World.drewN_drewN _ _ _⟩|exact ⟨rfl,_,Eq.trans (World.drewN_drewN _ _ _) (congrArg (World.drewN _) (Nat.add_assoc _ _ _))⟩)));try go_wp2_with (first|((with_reducible refine gate_dst (N:=2) rfl ?_);refine box_event ?hg (N:=2) ?hd (cs:=#[.bool a0_0,.slice A0_1 l0_1.length c0_1]) (t:=54) ?hr ?_;(case hd=>rfl);(case hg=>rfl);(case hr=>first|(go_simp;done)|(go_simp;rfl));intro gb545 hg w4 hbox hb;have n0_:=Aside0.mk (below_step (by repeat (first|(with_reducible first|exact HB.out|apply bA_|apply bN_|apply bD_)|exact HB.out)) hb);have n1_:=Aside0.mk (hbox);have n2_:=Aside0.mk ((by rw [hg];exact (below_size (by repeat (first|(with_reducible first|exact HB.out|apply bA_|apply bN_|apply bD_)|exact HB.out))):w.heap.size≤gb545));have n3_:=Aside0.mk ((by rw [hg];exact (below_size (by repeat (first|(with_reducible first|exact HB.out|apply bA_|apply bN_|apply bD_)|exact HB.out))):w.heap.size≤gb545));clear HB;have HB:=n0_;have BK545:=n1_;have GW545:=n2_;have GE545:=n3_;clear n0_ n1_ n2_ n3_;clear hb hbox hg;have hcz5_0:w4.cell? ⟨gb545,0,none⟩=some (.bool a0_0):=(blk_cell BK545.out 0).trans rfl;have hcz5_1:w4.cell? ⟨gb545,1,none⟩=some (.slice A0_1 l0_1.length c0_1):=(blk_cell BK545.out 1).trans rfl;have hfz5_0:=blk_frozen BK545.out 0;have hfz5_1:=blk_frozen BK545.out 1)|(go_at_call 63;(with_reducible refine (slices_Contains_string_string.calls k _ _ l0_1 a1 t546 _ ?side1 ?side2 A3.out).mono ?_);(case side1=>repeat (first|exact (Kd.C_below HR0_1.out HB.out)|(with_reducible refine cA_ ?_ _)|(with_reducible refine cN_ ?_ _)|(with_reducible refine cD_ ?_)));(case side2=>exact HC0_1.out);rintro e w' ⟨rfl,⟨nd,rfl⟩⟩;(try first|exact ⟨rfl,_,World.drewN_drewN _ _ _⟩|exact ⟨rfl,_,Eq.trans (World.drewN_drewN _ _ _) (congrArg (World.drewN _) (Nat.add_assoc _ _ _))⟩))))
 go_ret
 exact ⟨by first|rfl|(simp [errW_none,errW_some] <;> rfl)|(simp [*,errW_none,errW_some] <;> rfl),by repeat (first|(with_reducible first|exact HB.out|apply bA_|apply bN_|apply bD_|refine below_set ?_ GE545.out)|exact HB.out)⟩
end Go.Proofs.Ytainbaehfdhmbaa.PX
set_option linter.unusedVariables false
set_option linter.unusedSimpArgs false
namespace Go.Proofs.Ytainbaehfdhmbaa.PX
open Go.RowKit Go.Proofs.YtainbaehfdhmbaaW.PrintWords Go.Proofs.YtainbaehfdhmbaaW.PrintLast Go.Proofs.YtainbaehfdhmbaaW.PrintMore Go.Proofs.Ytainbaehfdhmbaa
def hasL (l:List ByteArray) (a:ByteArray):Bool:=l.any fun y=>decide (y=a)
theorem index_ev (l:List ByteArray) (a:ByteArray) (hl:l.length≤1000000000000):∀ d i:Nat,l.length - i≤d→i≤l.length→∃ r:Int,Ev (fun k=>slices_Index_string_string.l0 k l a (l.length:Int) (i:Int)) r∧decide (r ≥ 0)=hasL (l.drop i) a
 | d,i,hd,hi=>by
  by_cases h:i < l.length
  ·have e:∀ k,slices_Index_string_string.l0 (k+1) l a (l.length:Int) (i:Int)=if l[i]=a then some (i:Int) else slices_Index_string_string.l0 k l a (l.length:Int) ((i+1:Nat):Int):=by
    intro k
    simp only [slices_Index_string_string.l0]
    rw [if_pos (by omega),if_pos (by omega),if_pos (by omega),rdOf_nat h,wrap_succ (by omega)]
    by_cases ha:l[i]=a
    ·rw [if_pos (by rw [ha]),if_pos ha]
    ·rw [if_neg (fun x=>ha (tl_inj (by rw [toList_tl,toList_tl] at x;exact x.symm))),if_neg ha]
   have hdrop:l.drop i=l[i] :: l.drop (i+1):=List.drop_eq_getElem_cons h
   by_cases ha:l[i]=a
   ·refine ⟨(i:Int),Ev.step (fun k=>(e k).trans (if_pos ha)) (Ev.now _),?_⟩
    rw [hdrop]
    simp [hasL,ha]
   ·cases d with
    | zero=>omega
    | succ d =>
     obtain ⟨r,h1,h2⟩:=index_ev l a hl d (i+1) (by omega) (by omega)
     refine ⟨r,Ev.step (fun k=>(e k).trans (if_neg ha)) h1,?_⟩
     rw [h2,hdrop,hasL,hasL,List.any_cons,decide_eq_false ha,Bool.false_or]
  ·refine ⟨-1,Ev.step (f:=fun _=>some (-1)) (fun k=>?_) (Ev.now _),?_⟩
   ·simp only [slices_Index_string_string.l0]
    rw [if_neg (by omega)]
   ·rw [List.drop_of_length_le (by omega)]
    rfl
theorem has_ev (b:Bool) (l:List ByteArray) (a:ByteArray) (hl:l.length≤1000000000000):Ev (fun k=>names_Has.f k b l a) (hasL l a != b):=by
 obtain ⟨r,h1,h2⟩:=index_ev l a hl _ 0 (Nat.le_refl _) (Nat.zero_le _)
 obtain ⟨K,h1⟩:=h1
 refine ⟨K,fun k hk=>?_⟩
 have h1:slices_Index_string_string.l0 k l a (l.length:Int) 0=some r:=h1 k hk
 simp only [names_Has.f,slices_Contains_string_string.f,slices_Index_string_string.f]
 rw [h1]
 simp only [Option.bind_some]
 rw [h2]
 rfl
end Go.Proofs.Ytainbaehfdhmbaa.PX
set_option linter.unusedVariables false
set_option linter.unusedSimpArgs false
namespace Go.Proofs.Ytainbaehfdhmbaa.PX
open Go.RowKit Go.Proofs.YtainbaehfdhmbaaW.PrintWords Go.Proofs.YtainbaehfdhmbaaW.PrintLast Go.Proofs.YtainbaehfdhmbaaW.PrintMore Go.Proofs.Ytainbaehfdhmbaa Go.Shelf
abbrev Sc:=List S59
def hasS (x:S54) (a:ByteArray):Bool:=hasL x.f1 a != x.f0
def ScOk (s:Sc):Prop:=s.length≤1000000000000∧∀ d ∈ s,d.f0.length≤1000000000000∧∀ f ∈ d.f0,f.f0.f1.length≤1000000000000
instance (s:Sc):Decidable (ScOk s):=by unfold ScOk;exact inferInstance
def toN (l:List S56) (a:ByteArray):Int:=(l.find? fun f=>hasS f.f0 a).elim (-1) (·.f1)
def toM (s:Sc) (d:Int) (a:ByteArray):Int:=if d < 0∨(s.length:Int)≤d then -1 else toN (rd_T59 s d).f0 a
theorem toN_idx (l:List S56) (a:ByteArray):(∃ (i:Nat) (h:i < l.length),idxN (fun i=>(l[i]?).elim false fun f=>hasS f.f0 a) l.length=(i:Int)∧toN l a=(l[i]).f1)∨(idxN (fun i=>(l[i]?).elim false fun f=>hasS f.f0 a) l.length = -1∧toN l a = -1):=by
 rcases idxN_cases (fun i=>(l[i]?).elim false fun f=>hasS f.f0 a) l.length with ⟨i,h1,h2,h3,h4⟩|⟨h1,h2⟩
 ·refine .inl ⟨i,h1,h4,?_⟩
  have e:l.find? (fun f=>hasS f.f0 a)=some l[i]:=by
   rw [List.find?_eq_some_iff_getElem]
   refine ⟨by simpa [h1] using h2,i,h1,rfl,fun j hj=>?_⟩
   have:=h3 j hj
   rw [List.getElem?_eq_getElem (by omega)] at this
   simpa using this
  rw [toN,e]
  rfl
 ·refine .inr ⟨h2,?_⟩
  have e:l.find? (fun f=>hasS f.f0 a)=none:=by
   rw [List.find?_eq_none]
   intro x hx
   obtain ⟨j,hj,rfl⟩:=List.mem_iff_getElem.1 hx
   have:=h1 j hj
   rw [List.getElem?_eq_getElem hj] at this
   simpa using this
  rw [toN,e]
  rfl
set_option maxHeartbeats 4000000 in
set_option maxRecDepth 100000 in
theorem to_pred (a:ByteArray) (B:Nat) (f:S56) (W:World) (A1:Option Addr) (c1:Nat) (hB:W.cell? ⟨B,0,none⟩=some (.string a)) (hC:Kd.C Kd.string W A1 f.f0.f1.length f.f0.f1) (hc:f.f0.f1.length≤c1) (hl:f.f0.f1.length≤1000000000000) :
  Calls Try.prog 51 #[.agg #[.bool f.f0.f0,.slice A1 f.f0.f1.length c1,.int .i64 f.f1,.bool f.f2],.pointer (some ⟨B,0,none⟩)] W fun e w'=>e=.returned (.bool (hasS f.f0 a))∧Below W.heap.size W w':=by
 obtain ⟨k,hk⟩:=Ev.both (has_ev f.f0.f0 f.f0.f1 a hl)
 change names_Has.f k f.f0.f0 f.f0.f1 a=some (hasS f.f0 a) at hk
 have hu:=Try.underlying56
 have hu2:=Try.underlying54
 have hBl:=World.block_lt_of_cell? W _ hB
 have hB1:(W.alloc (.cells #[.bool f.f0.f0,.slice A1 f.f0.f1.length c1,.int .i64 f.f1,.bool f.f2] 56)).cell? ⟨B,0,none⟩=some (.string a):=Lib.cell?_alloc_some _ hB
 have hcall:=names_Has.calls k f.f0.f0 A1 c1 f.f0.f1 a _ (W.alloc (.cells #[.bool f.f0.f0,.slice A1 f.f0.f1.length c1,.int .i64 f.f1,.bool f.f2] 56)) (Kd.C_alloc hC _) hc hk
 clear hk hC
 generalize hasS f.f0 a=r at hcall ⊢
 generalize f.f0.f0=y0 at hB1 hcall ⊢
 generalize f.f0.f1.length=m at hB1 hcall ⊢
 generalize f.f1=y1 at hB1 hcall ⊢
 generalize f.f2=y2 at hB1 hcall ⊢
 clear hc hl hB
 go_enter Try.func51,Try.ntmps51
 go_wp2_with (go_at_call 52;refine hcall.mono ?_;rintro e w' ⟨rfl,hb'⟩)
 go_ret
 exact ⟨rfl,below_then (below_alloc (Below.refl _ _) _) (by simp) hb'⟩
def schema_To.f (l0:Sc) (a1:Int) (a2:ByteArray):Option Int:=if ScOk l0 then some (toM l0 a1 a2) else none
theorem rdD_mem {s:Sc} {d:Int} (h0:0≤d) (h1:d < s.length):rd_T59 s d ∈ s:=by
 have h:d.toNat < s.length:=by omega
 rw [show rd_T59 s d=s[d.toNat] by simp [rd_T59,List.getD_eq_getElem?_getD,h]]
 exact List.getElem_mem h
theorem rdF_nat {l:List S56} {i:Nat} (h:i < l.length):rd_T56 l (i:Int)=l[i]:=by simp [rd_T56,List.getD_eq_getElem?_getD,h]
set_option maxHeartbeats 8000000 in
set_option maxRecDepth 100000 in
theorem schema_To.calls (A0:Option Addr) (c0:Nat) (l0:List S59) (a1:Int) (a2:ByteArray) (r:Int) (w:World) (hr0:Kd.C k59 w A0 l0.length l0) (hc0:l0.length≤c0) (h:schema_To.f l0 a1 a2=some r) :
  Calls Try.prog 37 #[.slice A0 l0.length c0,.int .i64 a1,.string a2] w fun e w'=>e=.returned (.int .i64 r)∧Below w.heap.size w w':=by
 unfold schema_To.f at h
 split at h
 case isFalse=>cases h
 rename_i hok
 obtain rfl:=Option.some.inj h
 clear h
 have hu:=Try.underlying59
 have hu2:=Try.underlying56
 by_cases h1:a1 < 0
 ·rw [toM,if_pos (.inl h1)]
  clear hr0 hok hc0
  generalize l0.length=n
  go_enter Try.func37,Try.ntmps37
  go_wp2
  go_ret
  exact ⟨rfl,below_alloc (Below.refl _ _) _⟩
 by_cases h2:a1 < (l0.length:Int)
 ·rw [toM,if_neg (by omega)]
  have hm:=rdD_mem (by omega) h2
  obtain ⟨hs1,hs2⟩:=hok
  obtain ⟨hf1,hf2⟩:=hs2 _ hm
  clear hs2 hm hc0
  obtain ⟨ad,A1,c1,rfl,hx0,_,_,hx3,hx4⟩:=at_T59 hr0 a1 (by omega) h2
  clear hr0
  generalize (rd_T59 l0 a1).f0=fs at hx0 hx3 hx4 hf1 hf2 ⊢
  generalize l0.length=n at h2 hs1 ⊢
  have eg:∀ args w,(callFunc 51 args).run Try.prog w=.ok (.enter 51 args) w:=enters_of Try.func51 (by kernel_rfl) rfl
  have hcon:=firstF 51 #[.pointer (some ⟨w.heap.size,0,none⟩)] eg A1 c1 fs (fun i=>(fs[i]?).elim false fun f=>hasS f.f0 a2) (w.alloc (.cells #[.string a2] 9)) (Kd.C_alloc hx4 _) hf1
   (fun i hi W B1 c2 hW hC hc=>by
    have hb0:(w.alloc (.cells #[.string a2] 9)).cell? ⟨w.heap.size,0,none⟩=some (.string a2):=by simp
    have hb:W.cell? ⟨w.heap.size,0,none⟩=some (.string a2):=(hW.cell (World.block_lt_of_cell? _ _ hb0)).trans hb0
    have:=to_pred a2 w.heap.size (fs[i]) W B1 c2 hb (Kd.C_below hC hW) hc (hf2 _ (List.getElem_mem hi))
    rw [List.getElem?_eq_getElem hi]
    exact this)
  have hx0':(w.alloc (.cells #[.string a2] 9)).cell? (ad.add (a1.toNat * 3))=_:=Lib.cell?_alloc_some _ hx0
  rcases toN_idx fs a2 with ⟨i,hi,e1,e2⟩|⟨e1,e2⟩
  ·rw [e1] at hcon
   rw [e2]
   obtain ⟨ad2,A3,c3,rfl,_,_,hy2,_,_,_⟩:=at_T56 hx4 (i:Int) (by omega) (by exact_mod_cast hi)
   rw [rdF_nat hi,Int.toNat_natCast] at hy2
   clear hx4 hx3 hf2 hx0 e1 e2
   generalize (fs[i]).f1=y at hy2 ⊢
   have hi':(i:Int) < (fs.length:Int):=by exact_mod_cast hi
   clear hi
   generalize fs.length=m at hx0' hcon hf1 hi'
   have HB:∀ w',Below (w.alloc (.cells #[.string a2] 9)).heap.size (w.alloc (.cells #[.string a2] 9)) w'→w'.cell? ⟨(ad2.add (i * 4)).block,(ad2.add (i * 4)).off+2,none⟩=some (.int .i64 y):=fun w' hb=>by
    have:=Lib.cell?_alloc_some (.cells #[.string a2] 9) hy2
    exact (hb.cell (World.block_lt_of_cell? _ _ this)).trans this
   have HB':=Aside0.mk HB
   clear HB hy2
   go_enter Try.func37,Try.ntmps37
   go_wp2_with (go_at_call 50;refine hcon.mono ?_;rintro e w' ⟨rfl,hb'⟩;have hy:=HB'.out w' hb')
   go_ret
   exact ⟨rfl,below_then (below_alloc (Below.refl _ _) _) (by simp) hb'⟩
  ·rw [e1] at hcon
   rw [e2]
   clear hx4 hx3 hf2 hx0 e1 e2
   generalize fs.length=m at hx0' hcon hf1
   go_enter Try.func37,Try.ntmps37
   go_wp2_with (go_at_call 50;refine hcon.mono ?_;rintro e w' ⟨rfl,hb'⟩)
   go_ret
   exact ⟨rfl,below_then (below_alloc (Below.refl _ _) _) (by simp) hb'⟩
 ·rw [toM,if_pos (.inr (by omega))]
  clear hr0 hok hc0
  generalize l0.length=n at h2 ⊢
  go_enter Try.func37,Try.ntmps37
  go_wp2
  go_ret
  exact ⟨rfl,below_alloc (Below.refl _ _) _⟩
end Go.Proofs.Ytainbaehfdhmbaa.PX
set_option linter.unusedVariables false
namespace Go.Proofs.Ytainbaehfdhmbaa.PX
open Go.RowKit Go.Proofs.Ytainbaehfdhmbaa
abbrev Edge:=S51
noncomputable instance:DecidableEq Edge:=fun a b=>Classical.propDecidable (a=b)
noncomputable instance:DecidableEq Tr:=fun a b=>Classical.propDecidable (a=b)
def kid:Tr→ByteArray→Option Tr
 | [],_=>none
 | y :: t,n=>if tl y.f0 < tl n then kid t n else if y.f0=n then some y.f1 else none
def withT:Tr→ByteArray→Tr→Tr
 | [],n,x=>[⟨n,x⟩]
 | y :: t,n,x=>if tl y.f0 < tl n then y :: withT t n x else if y.f0=n then ⟨n,x⟩ :: t else ⟨n,x⟩ :: y :: t
theorem lt_ne {x y:ByteArray} (h:tl x < tl y):x≠y:=fun e=>by subst e;exact List.lt_irrefl _ h
theorem lt_tri (x y:ByteArray) (h:¬ tl x < tl y) (h':x≠y):tl y < tl x:=by
 have h1:tl y≤tl x:=List.not_lt.1 h
 exact List.not_le.1 fun h2=>h' (tl_inj (List.le_antisymm h2 h1))
theorem hasAt_kid:∀ (t:Tr) (n:ByteArray),hasAt t n=(kid t n).isSome
 | [],_=>rfl
 | y :: t,n=>by
  unfold hasAt kid
  split
  ·exact hasAt_kid t n
  ·split <;> simp_all
theorem kid_pos:∀ (t:Tr) (n:ByteArray) (x:Tr),kid t n=some x→∃ h:pos t n < t.length,t[pos t n].f0=n∧t[pos t n].f1=x
 | [],_,_,h=>by cases h
 | y :: t,n,x,h=>by
  by_cases hy:tl y.f0 < tl n
  ·rw [kid,if_pos hy] at h
   obtain ⟨h1,h2,h3⟩:=kid_pos t n x h
   have e:pos (y :: t) n=pos t n+1:=by rw [pos,if_pos hy]
   refine ⟨by rw [e];simpa using h1,?_,?_⟩
   ·simp only [e,List.getElem_cons_succ];exact h2
   ·simp only [e,List.getElem_cons_succ];exact h3
  ·have e:pos (y :: t) n=0:=by rw [pos,if_neg hy]
   rw [kid,if_neg hy] at h
   split at h
   ·rename_i hn
    injection h with h
    refine ⟨by rw [e];simp,?_,?_⟩
    ·simp only [e,List.getElem_cons_zero];exact hn
    ·simp only [e,List.getElem_cons_zero];exact h
   ·cases h
theorem withT_eq:∀ (t:Tr) (n:ByteArray) (x:Tr),withT t n x=t.take (pos t n) ++ ⟨n,x⟩ :: t.drop (if hasAt t n then pos t n+1 else pos t n)
 | [],n,x=>by simp [withT,pos]
 | y :: t,n,x=>by
  by_cases hy:tl y.f0 < tl n
  ·have e1:hasAt (y :: t) n=hasAt t n:=by rw [hasAt,if_pos hy]
   have e2:pos (y :: t) n=pos t n+1:=by rw [pos,if_pos hy]
   rw [withT,if_pos hy,withT_eq t n x,e1,e2]
   cases hasAt t n <;> simp
  ·have e1:hasAt (y :: t) n=decide (y.f0=n):=by rw [hasAt,if_neg hy]
   have e2:pos (y :: t) n=0:=by rw [pos,if_neg hy]
   rw [withT,if_neg hy,e1,e2]
   by_cases hn:y.f0=n <;> simp [hn]
theorem withT_length (t:Tr) (n:ByteArray) (x:Tr):(withT t n x).length≤t.length+1:=by
 rw [withT_eq]
 have:=pos_le t n
 simp
 split <;> omega
theorem mem_withT:∀ {t:Tr} {n:ByteArray} {x:Tr} {z:Edge},z ∈ withT t n x→z=⟨n,x⟩∨z ∈ t
 | [],n,x,z,h=>by simpa [withT] using h
 | y :: t,n,x,z,h=>by
  unfold withT at h
  split at h
  ·rcases List.mem_cons.1 h with h|h
   ·exact .inr (h ▸ List.mem_cons_self)
   ·exact (mem_withT h).imp_right (List.mem_cons_of_mem _)
  ·split at h
   ·rcases List.mem_cons.1 h with h|h
    ·exact .inl h
    ·exact .inr (List.mem_cons_of_mem _ h)
   ·rcases List.mem_cons.1 h with h|h
    ·exact .inl h
    ·exact .inr h
theorem mem_kid:∀ {t:Tr} {n:ByteArray} {x:Tr},kid t n=some x→(⟨n,x⟩:Edge) ∈ t
 | [],n,x,h=>by cases h
 | y :: t,n,x,h=>by
  unfold kid at h
  split at h
  ·exact List.mem_cons_of_mem _ (mem_kid h)
  ·split at h
   ·rename_i hn
    injection h with h
    have:y=⟨n,x⟩:=by cases y;simp_all
    rw [this]
    exact List.mem_cons_self
   ·cases h
theorem kid_mem:∀ {t:Tr} (_:Sorted t) {z:Edge},z ∈ t→kid t z.f0=some z.f1
 | [],_,z,h=>by cases h
 | y :: t,hs,z,h=>by
  obtain ⟨h1,h2⟩:=List.pairwise_cons.1 hs
  rcases List.mem_cons.1 h with h|h
  ·subst h
   rw [kid,if_neg (List.lt_irrefl _),if_pos rfl]
  ·rw [kid,if_pos (h1 z h)]
   exact kid_mem h2 h
theorem kid_none_of_gt:∀ {t:Tr} {n:ByteArray},(∀ z ∈ t,tl n < tl z.f0)→kid t n=none
 | [],_,_=>rfl
 | y :: t,n,h=>by
  have hy:=h y List.mem_cons_self
  rw [kid,if_neg (fun h'=>List.lt_irrefl _ (List.lt_trans hy h')),if_neg (fun e=>lt_ne hy e.symm)]
theorem sorted_withT:∀ {t:Tr} {n:ByteArray} {x:Tr},Sorted t→Sorted (withT t n x)
 | [],n,x,_=>List.pairwise_singleton _ _
 | y :: t,n,x,h=>by
  obtain ⟨h1,h2⟩:=List.pairwise_cons.1 h
  unfold withT
  split
  ·rename_i hy
   refine List.pairwise_cons.2 ⟨fun z hz=>?_,sorted_withT h2⟩
   rcases mem_withT hz with rfl|hz
   ·exact hy
   ·exact h1 z hz
  ·rename_i hy
   split
   ·rename_i hn
    subst hn
    exact List.pairwise_cons.2 ⟨h1,h2⟩
   ·rename_i hn
    have hlt:=lt_tri _ _ hy hn
    refine List.pairwise_cons.2 ⟨fun z hz=>?_,h⟩
    rcases List.mem_cons.1 hz with rfl|hz
    ·exact hlt
    ·exact List.lt_trans hlt (h1 z hz)
theorem kid_withT:∀ {t:Tr} {n:ByteArray} {x:Tr},Sorted t→∀ m,kid (withT t n x) m=if m=n then some x else kid t m
 | [],n,x,_,m=>by
  unfold withT kid
  split
  ·rename_i h
   rw [if_neg (fun e=>lt_ne h e.symm)]
   rfl
  ·by_cases e:m=n
   ·subst e;simp
   ·rw [if_neg e]
    simp only
    rw [if_neg (fun e'=>e e'.symm)]
 | y :: t,n,x,h,m=>by
  obtain ⟨h1,h2⟩:=List.pairwise_cons.1 h
  unfold withT
  split
  ·rename_i hy
   by_cases hm:tl y.f0 < tl m
   ·rw [kid,if_pos hm,kid_withT h2 m,kid,if_pos hm]
   ·have hne:m≠n:=fun e=>hm (e ▸ hy)
    rw [kid,if_neg hm,kid,if_neg hm,if_neg hne]
  ·rename_i hy
   split
   ·rename_i hn
    subst hn
    by_cases hm:tl y.f0 < tl m
    ·rw [kid,if_pos hm,if_neg (fun e=>lt_ne hm e.symm),kid,if_pos hm]
    ·rw [kid,if_neg hm,kid,if_neg hm]
     by_cases e:m=y.f0
     ·rw [if_pos e.symm,if_pos e]
     ·rw [if_neg (fun e'=>e e'.symm),if_neg e,if_neg (fun e'=>e e'.symm)]
   ·rename_i hn
    have hlt:=lt_tri _ _ hy hn
    by_cases hm:tl n < tl m
    ·rw [kid,if_pos hm,if_neg (fun e=>lt_ne hm e.symm)]
    ·by_cases e:m=n
     ·subst e
      rw [kid,if_neg hm,if_pos rfl,if_pos rfl]
     ·have hmn:tl m < tl n:=lt_tri _ _ hm (fun e'=>e e'.symm)
      rw [kid,if_neg hm,if_neg (fun e'=>e e'.symm),if_neg e,kid_none_of_gt]
      intro z hz
      rcases List.mem_cons.1 hz with rfl|hz
      ·exact List.lt_trans hmn hlt
      ·exact List.lt_trans (List.lt_trans hmn hlt) (h1 z hz)
def Ok (W:Nat):Nat→Tr→Prop
 | 0,t=>t = []
 | d+1,t=>t.length≤W∧Sorted t∧∀ x ∈ t,Ok W d x.f1
theorem Ok.nil (W:Nat):∀ d,Ok W d []
 | 0=>rfl
 | d+1=>⟨Nat.zero_le _,List.Pairwise.nil,fun x h=>by cases h⟩
theorem Ok.succ {W:Nat} : ∀ {d:Nat} {t:Tr},Ok W d t→Ok W (d+1) t
 | 0,t,h=>by rw [show t = [] from h];exact Ok.nil W 1
 | d+1,t,h=>⟨h.1,h.2.1,fun x hx=>Ok.succ (h.2.2 x hx)⟩
theorem Ok.le {W d d':Nat} {t:Tr} (h:Ok W d t) (hd:d≤d'):Ok W d' t:=by
 induction hd with
 | refl=>exact h
 | step _ ih=>exact ih.succ
theorem Ok.length {W d:Nat} {t:Tr} (h:Ok W d t):t.length≤W:=by
 cases d with
 | zero=>rw [show t = [] from h];exact Nat.zero_le _
 | succ d=>exact h.1
theorem Ok.sorted {W d:Nat} {t:Tr} (h:Ok W d t):Sorted t:=by
 cases d with
 | zero=>rw [show t = [] from h];exact List.Pairwise.nil
 | succ d=>exact h.2.1
theorem Ok.kid {W d:Nat} {t x:Tr} {n:ByteArray} (h:Ok W (d+1) t) (hk:PX.kid t n=some x):Ok W d x:=h.2.2 _ (mem_kid hk)
theorem Ok.kid0 {W d:Nat} {t:Tr} {n:ByteArray} (h:Ok W (d+1) t):Ok W d ((PX.kid t n).getD []):=by
 cases e:PX.kid t n with
 | none=>exact Ok.nil _ _
 | some x=>exact h.kid e
theorem Ok.withT {W d:Nat} {t x:Tr} {n:ByteArray} (h:Ok W (d+1) t) (hx:Ok W d x) (hl:(PX.withT t n x).length≤W):Ok W (d+1) (PX.withT t n x) :=
 ⟨hl,sorted_withT h.sorted,fun z hz=>by
  rcases mem_withT hz with rfl|hz
  ·exact hx
  ·exact h.2.2 z hz⟩
end Go.Proofs.Ytainbaehfdhmbaa.PX
set_option linter.unusedVariables false
set_option linter.unusedSimpArgs false
namespace Go.Proofs.Ytainbaehfdhmbaa.PX
open Go.RowKit Go.Proofs.YtainbaehfdhmbaaW.PrintWords Go.Proofs.YtainbaehfdhmbaaW.PrintLast Go.Proofs.YtainbaehfdhmbaaW.PrintMore Go.Proofs.Ytainbaehfdhmbaa Go.Shelf
theorem all_att {α : Type} (l : List α) (f : α → Bool) : (l.attach.all fun x => f x.1) = l.all f := by
  rw [Bool.eq_iff_iff, List.all_eq_true, List.all_eq_true]
  exact ⟨fun h x hx => h ⟨x, hx⟩ (List.mem_attach _ _), fun h x _ => h x.1 x.2⟩
theorem kids_lt {t : Tr} {x : S51} (h : x ∈ t) : SizeOf.sizeOf x.f1 < SizeOf.sizeOf t := by
  have h1 := List.sizeOf_lt_of_mem h
  have h2 : SizeOf.sizeOf x.f1 < SizeOf.sizeOf x := by
    cases x
    simp [S51.f1]
    omega
  omega
def trOk (t : Tr) : Bool := decide (t.length ≤ 1000000000000) && t.attach.all fun x => trOk x.1.f1
termination_by SizeOf.sizeOf t
decreasing_by exact kids_lt x.2
theorem trOk_eq (t : Tr) : trOk t = (decide (t.length ≤ 1000000000000) && t.all fun x => trOk x.f1) := by
  rw [trOk]
  congr 1
  exact all_att t fun x => trOk x.f1
theorem trOk_len {t : Tr} (h : trOk t = true) : t.length ≤ 1000000000000 ∧ ∀ x ∈ t, trOk x.f1 = true := by
  rw [trOk_eq, Bool.and_eq_true, decide_eq_true_eq, List.all_eq_true] at h
  exact h
def eqT (a b : Tr) : Bool :=
  match a, b with
  | [], [] => true
  | x :: a, y :: b => decide (x.f0 = y.f0) && (eqT x.f1 y.f1 && eqT a b)
  | _, _ => false
termination_by SizeOf.sizeOf a
decreasing_by
  · exact kids_lt List.mem_cons_self
  · simp
    omega
theorem eqT_iff : ∀ (N : Nat) (a b : Tr), SizeOf.sizeOf a ≤ N → (eqT a b = true ↔ a = b)
  | 0, a, b, hN => by cases a <;> simp at hN
  | N + 1, [], [], _ => by simp [eqT]
  | N + 1, [], y :: b, _ => by simp [eqT]
  | N + 1, x :: a, [], _ => by simp [eqT]
  | N + 1, x :: a, y :: b, hN => by
    have h1 := eqT_iff N x.f1 y.f1 (by have := kids_lt (t := x :: a) (x := x) List.mem_cons_self; omega)
    have h2 := eqT_iff N a b (by simp at hN; omega)
    rw [eqT, Bool.and_eq_true, Bool.and_eq_true, decide_eq_true_eq, h1, h2, List.cons.injEq]
    constructor
    · rintro ⟨e1, e2, e3⟩
      refine ⟨?_, e3⟩
      cases x
      cases y
      simp_all
    · rintro ⟨rfl, rfl⟩
      exact ⟨rfl, rfl, rfl⟩
theorem eqT_eq {a b : Tr} : eqT a b = true ↔ a = b := eqT_iff _ a b (Nat.le_refl _)
theorem eqT_false {a b : Tr} (h : a ≠ b) : eqT a b = false := by
  cases e : eqT a b with
  | false => rfl
  | true => exact absurd (eqT_eq.1 e) h
set_option maxHeartbeats 4000000 in
set_option maxRecDepth 100000 in
theorem eqE (g : Nat) (eg : ∀ args w, (callFunc g args).run Try.prog w = .ok (.enter g args) w) (A B : Option Addr) (c d : Nat) (a b : List S51) (p : Nat → Bool) (w : World) (hA : Kd.C k51 w A a.length a) (hB : Kd.C k51 w B b.length b) (hl : a.length ≤ 1000000000000) (hab : b.length = a.length) (r : Bool) (hr1 : r = true → ∀ i, i < a.length → p i = true) (hr0 : r = false → ∃ i, i < a.length ∧ p i = false)
    (hp : ∀ i (h : i < a.length) (W : World) (A1 B1 : Option Addr) (c1 d1 : Nat), Below w.heap.size w W → Kd.C k51 w A1 (a[i]).f1.length (a[i]).f1 → (a[i]).f1.length ≤ c1 → Kd.C k51 w B1 (b[i]'(hab ▸ h)).f1.length (b[i]'(hab ▸ h)).f1 → (b[i]'(hab ▸ h)).f1.length ≤ d1 →
      Calls Try.prog g #[.agg #[.string (a[i]).f0, .slice A1 (a[i]).f1.length c1], .agg #[.string (b[i]'(hab ▸ h)).f0, .slice B1 (b[i]'(hab ▸ h)).f1.length d1]] W fun e w' => e = .returned (.bool (p i)) ∧ Below W.heap.size W w') :
    Calls Try.prog 45 #[.slice A a.length c, .slice B b.length d, .func (.func g) #[] #[]] w fun e w' => e = .returned (.bool r) ∧ Below w.heap.size w w' := by
  have hu := Try.underlying51
  have HA := Aside0.mk hA
  have HB := Aside0.mk hB
  have HP := Aside0.mk hp
  have HR1 := Aside0.mk hr1
  have HR0 := Aside0.mk hr0
  clear hA hB hp hr1 hr0
  rw [hab]
  generalize hn : a.length = n at hl ⊢
  have HN := Aside0.mk hn
  clear hn
  go_enter Try.func45, Try.ntmps45
  go_wp2
  go_loopg [17] n (fun gg s17 wr => ∃ kk : Nat, kk ≤ n ∧ n - kk ≤ gg ∧ s17 = .int .i64 kk ∧ Aside0 (Below w.heap.size w wr) ∧ Aside0 (∀ j, j < kk → p j = true))
  case atStart => exact ⟨0, Nat.zero_le _, by omega, rfl, ⟨Below.refl _ w⟩, ⟨fun j hj => absurd hj (Nat.not_lt_zero _)⟩⟩
  case round =>
    obtain ⟨kk, hkk, hg, rfl, HB_, PF⟩ := hrel
    by_cases hlt : kk < n
    · have hm : kk < a.length := by rw [HN.out]; exact hlt
      have hm2 : kk < b.length := by rw [hab]; exact hm
      obtain ⟨ad, A1, c1, rfl, hx0, hx1, hx4, hx5⟩ := at_T51 HA.out (kk : Int) (by omega) (by exact_mod_cast hm)
      obtain ⟨bd, B1, d1, rfl, hy0, hy1, hy4, hy5⟩ := at_T51 HB.out (kk : Int) (by omega) (by exact_mod_cast hm2)
      rw [show rd_T51 a (kk : Int) = a[kk] by simp [rd_T51, List.getD_eq_getElem?_getD, hm]] at hx0 hx1 hx4 hx5
      rw [show rd_T51 b (kk : Int) = b[kk] by simp [rd_T51, List.getD_eq_getElem?_getD, hm2]] at hy0 hy1 hy4 hy5
      replace hx0 := (HB_.out.cell (World.block_lt_of_cell? w _ hx0)).trans hx0
      replace hx1 := (HB_.out.cell (World.block_lt_of_cell? w _ hx1)).trans hx1
      replace hy0 := (HB_.out.cell (World.block_lt_of_cell? w _ hy0)).trans hy0
      replace hy1 := (HB_.out.cell (World.block_lt_of_cell? w _ hy1)).trans hy1
      simp only [Int.toNat_natCast] at hx0 hx1 hy0 hy1
      have hcall := fun W hW => HP.out kk hm W A1 B1 c1 d1 hW hx5 hx4 hy5 hy4
      clear hx4 hx5 hy4 hy5
      generalize (a[kk]).f1.length = m1 at hx1 hcall
      generalize (a[kk]).f0 = y0 at hx0 hcall
      generalize (b[kk]).f1.length = m2 at hy1 hcall
      generalize (b[kk]).f0 = y2 at hy0 hcall
      have hz0 := Lib.cell?_alloc_some (.cells #[.string y0, .slice A1 m1 c1] 51) hy0
      have hz1 := Lib.cell?_alloc_some (.cells #[.string y0, .slice A1 m1 c1] 51) hy1
      clear hm hm2
      have hltz : (kk : Int) < (n : Int) := by omega
      have HC_ := Aside0.mk hcall
      clear hcall
      cases hq : p kk with
      | false =>
        rw [hq] at HC_
        have hrf : r = false := by
          cases r with
          | false => rfl
          | true => exact absurd ((HR1.out rfl kk (by rw [HN.out]; exact hlt)).symm.trans hq) (by decide)
        subst hrf
        clear hq
        go_wp2_with (go_at_fn g; refine (HC_.out _ ?hs).mono ?_; (case hs => exact below_alloc (below_alloc HB_.out _) _); rintro e w' ⟨rfl, hb'⟩)
        go_ret
        exact ⟨rfl, below_then (below_alloc (below_alloc HB_.out _) _) (Nat.le_trans HB_.out.size (by simp; omega)) hb'⟩
      | true =>
        rw [hq] at HC_
        have HQ := Aside0.mk hq
        clear hq
        go_wp2_with (go_at_fn g; refine (HC_.out _ ?hs).mono ?_; (case hs => exact below_alloc (below_alloc HB_.out _) _); rintro e w' ⟨rfl, hb'⟩)
        go_roundg (n - (kk + 1))
        case measure => omega
        case rel =>
          refine ⟨kk + 1, by omega, by omega, by go_num, ⟨below_then (below_alloc (below_alloc HB_.out _) _) (Nat.le_trans HB_.out.size (by simp; omega)) hb'⟩, ⟨fun j hj => ?_⟩⟩
          by_cases e : j = kk
          · subst e
            exact HQ.out
          · exact PF.out j (by omega)
    · have hltz : ¬ (kk : Int) < (n : Int) := by omega
      have : kk = n := by omega
      subst this
      have hrt : r = true := by
        cases r with
        | true => rfl
        | false =>
          obtain ⟨i, hi, hpi⟩ := HR0.out rfl
          exact absurd ((PF.out i (by rw [← HN.out]; exact hi)).symm.trans hpi) (by decide)
      subst hrt
      go_wp2
      go_ret
      exact ⟨rfl, HB_.out⟩
set_option maxHeartbeats 4000000 in
set_option maxRecDepth 100000 in
theorem same_pred (y z : ByteArray) (A1 B1 : Option Addr) (m1 c1 m2 d1 : Nat) (r : Bool) (w : World) (hS : ∀ W, Below w.heap.size w W → Calls Try.prog 33 #[.slice A1 m1 c1, .slice B1 m2 d1] W fun e w' => e = .returned (.bool r) ∧ Below W.heap.size W w') :
    Calls Try.prog 46 #[.agg #[.string y, .slice A1 m1 c1], .agg #[.string z, .slice B1 m2 d1]] w fun e w' => e = .returned (.bool (decide (y = z) && r)) ∧ Below w.heap.size w w' := by
  have hu := Try.underlying51
  have HS := Aside0.mk hS
  clear hS
  have hr := Aside0.mk (same_eq y z)
  generalize decide (y = z) = q at hr ⊢
  have hr' := hr.out
  clear hr
  cases q with
  | false =>
    go_enter Try.func46, Try.ntmps46
    go_wp2
    go_ret
    exact ⟨rfl, below_alloc (below_alloc (Below.refl _ _) _) _⟩
  | true =>
    go_enter Try.func46, Try.ntmps46
    go_wp2_with (go_at_call 33; refine (HS.out _ ?hs).mono ?_; (case hs => exact below_alloc (below_alloc (Below.refl _ _) _) _); rintro e w' ⟨rfl, hb'⟩)
    go_ret
    exact ⟨by simp, below_then (below_alloc (below_alloc (Below.refl _ _) _) _) (by simp; omega) hb'⟩
set_option maxHeartbeats 4000000 in
set_option maxRecDepth 100000 in
theorem eqE_len (g : Nat) (A B : Option Addr) (c d n m : Nat) (w : World) (h : m ≠ n) :
    Calls Try.prog 45 #[.slice A n c, .slice B m d, .func (.func g) #[] #[]] w fun e w' => e = .returned (.bool false) ∧ Below w.heap.size w w' := by
  have h' : ((n : Int) != (m : Int)) = true := by rw [bne_iff_ne]; omega
  have h2 : ((n : Int) == (m : Int)) = false := by rw [beq_eq_false_iff_ne]; omega
  clear h
  go_enter Try.func45, Try.ntmps45
  go_wp2
  go_ret
  exact ⟨rfl, Below.refl _ _⟩
theorem edge_ext {x y : S51} : x = y ↔ x.f0 = y.f0 ∧ x.f1 = y.f1 := by
  constructor
  · rintro rfl; exact ⟨rfl, rfl⟩
  · rintro ⟨h, h'⟩; cases x; cases y; simp_all
set_option maxHeartbeats 4000000 in
set_option maxRecDepth 100000 in
theorem same_calls : ∀ (N : Nat) (a b : Tr), SizeOf.sizeOf a ≤ N → trOk a = true → ∀ (A B : Option Addr) (c d : Nat) (w : World), Kd.C k51 w A a.length a → Kd.C k51 w B b.length b →
    Calls Try.prog 33 #[.slice A a.length c, .slice B b.length d] w fun e w' => e = .returned (.bool (eqT a b)) ∧ Below w.heap.size w w'
  | 0, a, b, hN, _ => by cases a <;> simp at hN
  | N + 1, a, b, hN, ha => by
    intro A B c d w hA hB
    obtain ⟨hl, hk⟩ := trOk_len ha
    have HE : Aside0 (Calls Try.prog 45 #[.slice A a.length c, .slice B b.length d, .func (.func 46) #[] #[]] w fun e w' => e = .returned (.bool (eqT a b)) ∧ Below w.heap.size w w') := ⟨by
      by_cases hab : b.length = a.length
      · refine eqE 46 (enters_of Try.func46 (by kernel_rfl) rfl) A B c d a b (fun i => (a[i]?).elim false fun x => (b[i]?).elim false fun y => decide (x.f0 = y.f0) && eqT x.f1 y.f1) w hA hB hl hab (eqT a b) ?_ ?_ ?_
        · intro h i hi
          have e := eqT_eq.1 h
          subst e
          rw [List.getElem?_eq_getElem hi]
          show (decide _ && _) = true
          rw [decide_eq_true rfl, eqT_eq.2 rfl]
          rfl
        · intro h
          refine Classical.byContradiction fun hno => ?_
          have e : a = b := List.ext_getElem hab.symm fun i h1 h2 => by
            refine Classical.byContradiction fun hne => hno ⟨i, h1, ?_⟩
            rw [List.getElem?_eq_getElem h1, List.getElem?_eq_getElem h2]
            show (decide _ && _) = false
            by_cases h3 : a[i].f0 = b[i].f0
            · rw [decide_eq_true h3, eqT_false (fun h4 => hne (edge_ext.2 ⟨h3, h4⟩))]
              rfl
            · rw [decide_eq_false h3]
              rfl
          rw [eqT_eq.2 e] at h
          cases h
        · intro i hi W A1 B1 c1 d1 hW h1 _ h2 _
          have hm := List.getElem_mem hi
          rw [List.getElem?_eq_getElem hi, List.getElem?_eq_getElem (show i < b.length by omega)]
          exact same_pred _ _ A1 B1 _ c1 _ d1 _ W fun W3 hW3 => same_calls N _ _ (by have := kids_lt hm; omega) (hk _ hm) A1 B1 c1 d1 W3 (Kd.C_below (Kd.C_below h1 hW) hW3) (Kd.C_below (Kd.C_below h2 hW) hW3)
      · rw [eqT_false (fun e => hab (by rw [e]))]
        exact eqE_len _ A B c d _ _ w hab⟩
    clear hA hB hN ha hl hk
    generalize eqT a b = r at HE ⊢
    generalize a.length = n at HE ⊢
    generalize b.length = m at HE ⊢
    go_enter Try.func33, Try.ntmps33
    go_wp2_with (go_at_call 45; refine HE.out.mono ?_; rintro e w' ⟨rfl, hb'⟩)
    go_ret
    exact ⟨rfl, hb'⟩
def tree_Same.f (l0 l1 : Tr) : Option Bool := if trOk l0 = true then some (eqT l0 l1) else none
theorem tree_Same.calls (A0 : Option Addr) (c0 : Nat) (l0 : List S51) (A1 : Option Addr) (c1 : Nat) (l1 : List S51) (r : Bool) (w : World) (hr0 : Kd.C k51 w A0 l0.length l0) (hc0 : l0.length ≤ c0) (hr1 : Kd.C k51 w A1 l1.length l1) (hc1 : l1.length ≤ c1) (h : tree_Same.f l0 l1 = some r) :
    Calls Try.prog 33 #[.slice A0 l0.length c0, .slice A1 l1.length c1] w fun e w' => e = .returned (.bool r) ∧ Below w.heap.size w w' := by
  unfold tree_Same.f at h
  split at h
  case isFalse => cases h
  rename_i hok
  obtain rfl := Option.some.inj h
  exact same_calls _ l0 l1 (Nat.le_refl _) hok A0 A1 c0 c1 w hr0 hr1
end Go.Proofs.Ytainbaehfdhmbaa.PX
set_option linter.unusedVariables false
set_option linter.unusedSimpArgs false
namespace Go.Proofs.Ytainbaehfdhmbaa.PX
open Go.RowKit Go.Proofs.YtainbaehfdhmbaaW.PrintWords Go.Proofs.YtainbaehfdhmbaaW.PrintLast Go.Proofs.YtainbaehfdhmbaaW.PrintMore Go.Proofs.Ytainbaehfdhmbaa Go.Shelf
def withE (t : Tr) (n : ByteArray) (b : Bool) (x : Tr) : Tr := if b = true then t ++ [⟨n, x⟩] else t
set_option maxHeartbeats 4000000 in
set_option maxRecDepth 100000 in
theorem with_calls (base : Nat) (okt okx : Nat → Prop) (vt : Value) (t : Tr) (n : ByteArray) (b : Bool) (A : Option Addr) (c : Nat) (x : Tr) (w : World)
    (hT : Kd.N k51 51 w base okt vt t) (hX : Kd.F k51 w okx A x.length x) (hc : x.length ≤ c) (hox : ∀ k, okx k → okt k ∧ some k ≠ vt.ownBlock) (hfr : ∀ k, w.heap.size ≤ k → okt k) (hbase : base ≤ w.heap.size) (hl : t.length ≤ 1000000000) :
    Calls Try.prog 39 #[vt, .string n, .agg #[.bool b, .slice A x.length c]] w fun e w' => ∃ v1, e = .returned v1 ∧ Kd.N k51 51 w' base okt v1 (withE t n b x) ∧ Below base w w' ∧ Kept w w' (fun k => some k = vt.ownBlock) ∧ (v1.ownBlock = vt.ownBlock ∨ ∃ q, v1.ownBlock = some q ∧ w.heap.size ≤ q) := by
  have hu := Try.underlying26
  obtain ⟨At, ct, rfl⟩ := Kd.N_slice hT
  have HT := Aside0.mk hT
  have HX := Aside0.mk hX
  have HO := Aside0.mk hox
  have HF := Aside0.mk hfr
  clear hT hX hox hfr
  have HB := Aside0.mk (Below.refl base w)
  cases b with
  | false =>
    go_enter Try.func39, Try.ntmps39
    go_wp2
    go_ret
    exact ⟨_, rfl, Kd.N_alloc HT.out _, (HB.out).alloc hbase _, Kept.alloc (Kept.refl _ _) _, .inl rfl⟩
  | true =>
    go_enter Try.func39, Try.ntmps39
    go_wp2_with (first
      | ((with_reducible refine gate_builtin (b := .append) (xs := #[.tmp 11, .tmp 16]) rfl ?_); at_builtin; refine Kd.N_append k51 (w0 := w) base rfl (.tmp 11) (.tmp 16) 24 51 (.agg #[(.string ⟨#[]⟩), (.slice none 0 0)]) 40 rfl Try.underlying24 info51 rfl (by decide) (by omega) (.slice At t.length ct) t (⟨n, x⟩ : S51) [.string n, .slice A x.length c] okt okx rfl (by show (Value.slice (some ⟨w.heap.size + 1, 0, none⟩) 1 1) = _; simp) ?aP ?aQ ?aF ?aO ?aB ?aS ?aL ?_;
          (case aP => exact k51_mkF _ _ (⟨n, x⟩ : S51) hc (Kd.F_alloc HX.out _)); (case aQ => exact HO.out); (case aF => exact (fun k hk => HF.out k (Nat.le_trans (by simp) hk))); (case aO => exact Kd.N_alloc HT.out _); (case aB => exact (HB.out).alloc hbase _); (case aS => simp; omega); (case aL => omega); intro v1 w1 hN hB1 hg hat; have HN := Aside0.mk hN; have HB1 := Aside0.mk hB1; have HG := Aside0.mk hg; have HA := Aside0.mk hat; clear hN hB1 hg hat))
    go_ret
    refine ⟨v1, rfl, HN.out, HB1.out, Kept.of_grown HG.out (Kept.alloc (Kept.refl _ _) _) (fun k hk => .inl hk.symm), ?_⟩
    rcases HA.out with h | ⟨q, h1, h2⟩
    · exact .inl h
    · exact .inr ⟨q, h1, Nat.le_trans (by simp) h2⟩
end Go.Proofs.Ytainbaehfdhmbaa.PX
namespace Go.Proofs.Ytainbaehfdhmbaa.PX
open Go.RowKit Go.Proofs.YtainbaehfdhmbaaW.PrintWords Go.Proofs.YtainbaehfdhmbaaW.PrintLast Go.Proofs.YtainbaehfdhmbaaW.PrintMore
attribute [local go_sem] max2_int min2_int max_two min_two max_three min_three max_four min_four   
set_option linter.unusedVariables false
set_option linter.unusedSimpArgs false
def slices_Clone_string_string.f (l0:List ByteArray):Option (List ByteArray):=(some (([]:List ByteArray):List ByteArray)).bind fun y609=>(if y609.length+l0.length < 8796093022208 then (some (y609 ++ l0)) else (none))
set_option maxHeartbeats 8000000 in
set_option maxRecDepth 100000 in
theorem slices_Clone_string_string.calls (A0:Option Addr) (c0:Nat) (l0:List ByteArray) (r:List ByteArray) (w:World) (hr0:Kd.C Kd.string w A0 l0.length l0) (hc0:l0.length≤c0) (h:slices_Clone_string_string.f l0=some r) :
  Calls Try.prog 35 #[.slice A0 l0.length c0] w fun e w'=>∃ v0_:Value,e=.returned (v0_)∧Kd.R Kd.string 9 w' w.heap.size (fun _=>True) v0_ r∧Below w.heap.size w w':=by
 have q22:∀ (w:World) (a:Option Addr) (n c n' c':Nat),(binOp .eql 35 (.slice a n c) (.slice none n' c')).run Try.prog w=.ok (.bool a.isNone) w:=fun w a n c n' c'=>Lib.run_eql_slice_nil w _ _ a n c n' c' Try.underlying35
 by_cases hA0:A0=none
 ·have hl0:l0 = []:=by
   cases l0 with
   | nil=>rfl
   | cons x t_ =>
    obtain ⟨ad,e,_⟩:=(hr0).2.2 (by simp)
    exact absurd (hA0.symm.trans e) (by simp)
  subst hA0 hl0
  have hr_:r = []:=by simpa [slices_Clone_string_string.f] using h.symm
  subst hr_
  clear h
  go_enter Try.func35,Try.ntmps35
  go_wp2
  go_ret
  exact ⟨.slice none 0 0,rfl,by first|exact Kd.R_nil _ _ _ _ _|exact Kd.N_nil _ _ _ _ _|exact Kd.S_nil _ _ _ _ _,Below.refl _ _⟩
 have hA1:A0.isNone=false:=by cases A0 with
  | none=>exact absurd rfl hA0
  | some a=>rfl
 clear hA0
 have HR0:=Aside0.mk hr0
 have HC0:=Aside0.mk hc0
 clear hr0 hc0
 have HB:=Aside0.mk (Below.refl w.heap.size w)
 have H:((some (([]:List ByteArray):List ByteArray)).bind fun y609=>(if y609.length+l0.length < 8796093022208 then (some (y609 ++ l0)) else (none)))=some r:=h
 clear h
 obtain ⟨y609,hy609⟩:∃ y_:List ByteArray,y_=(([]:List ByteArray)):=⟨_,rfl⟩
 replace H:(if y609.length+l0.length < 8796093022208 then (some (y609 ++ l0)) else (none))=some r:=by first|(rw [hy609];with_reducible exact H)|(have H2_:=(Option.bind_some _ _).symm.trans H;rw [hy609];with_reducible exact H2_)|(have H2_:=(Option.bind_some _ _).symm.trans H;with_reducible exact H2_)|with_reducible exact H|(rw [hy609];exact H)|exact H
 have Ny609:=Aside0.mk hy609
 clear hy609
 by_cases c2:y609.length+l0.length < 8796093022208
 ·rw [if_pos c2] at H
  have LMc2:=Aside0.mk c2
  clear c2
  obtain ⟨y612,hy612⟩:∃ y_:List ByteArray,y_=(y609 ++ l0):=⟨_,rfl⟩
  replace H:(some y612)=some r:=by first|(rw [hy612];with_reducible exact H)|(have H2_:=(Option.bind_some _ _).symm.trans H;rw [hy612];with_reducible exact H2_)|(have H2_:=(Option.bind_some _ _).symm.trans H;with_reducible exact H2_)|with_reducible exact H|(rw [hy612];exact H)|exact H
  have Ny612:=Aside0.mk hy612
  clear hy612
  obtain rfl:=Option.some.inj H
  go_enter Try.func35,Try.ntmps35
  go_wp2_with (first|((with_reducible refine gate_dst (N:=5) rfl ?_);refine Kd.R_lit Kd.string _ 9 ?hg (N:=5) ?hd (xs:=([]:List ByteArray)) (inner:=[]) (ok:=fun _=>True) (okp:=fun _=>True) ?hr ?hp (fun _ hk=>hk) trivial (Below.refl _ _) (Nat.le_refl _) (by simp) ?_;(case hd=>rfl);(case hg=>rfl);(case hr=>first|(go_simp;done)|(go_simp;rfl));(case hp=>exact (Reps.none _ _));intro v610 w3 ho4 hb hg_ hnew_;clear hg_ hnew_;(first|rw [← Ny609.out] at ho4|(simp only [Int.reduceToNat] at ho4;rw [← Ny609.out] at ho4));have n0_:=Aside0.mk (Kd.R_lower ho4 (below_size (by repeat (first|(with_reducible first|exact HB.out|apply bA_|apply bN_|apply bD_)|exact HB.out))));have n1_:=Aside0.mk (below_step (by repeat (first|(with_reducible first|exact HB.out|apply bA_|apply bN_|apply bD_)|exact HB.out)) hb);clear HB;have HO611:=n0_;have HB:=n1_;clear n0_ n1_;clear hb ho4)|((with_reducible refine gate_builtin (b:=.append) (xs:=#[.tmp 5,.tmp 6]) rfl ?_);at_builtin;refine Kd.R_append_rows Kd.string (w0:=w) w.heap.size rfl (.tmp 5) (.tmp 6) 35 9 (.string ⟨#[]⟩) 16 rfl Try.underlying35 info9 rfl (by decide) (by omega) v610 y609 l0 _ _ _ (fun _=>True) (fun _=>False) rfl rfl ?aO ?aR (fun _ _ h=>h) (fun _ h=>h.elim) ?aF ?aB ?aS ?aL ?_;(case aR=>repeat (first|exact (Kd.C_below HR0.out HB.out)|(with_reducible refine cA_ ?_ _)|(with_reducible refine cN_ ?_ _)|(with_reducible refine cD_ ?_)));(case aB=>exact (by repeat (first|(with_reducible first|exact HB.out|apply bA_|apply bN_|apply bD_)|exact HB.out)));(case aF=>exact (fun _ _=>trivial));(case aO=>exact (by (with_reducible repeat (first|apply rA_|apply rN_|apply rD_));exact HO611.out));(case aS=>exact (below_size (by repeat (first|(with_reducible first|exact HB.out|apply bA_|apply bN_|apply bD_)|exact HB.out))));(case aL=>have:=LMc2.out;omega);intro v613 w5 ho hb hg hat;rw [← Ny612.out] at ho;have n0_:=Aside0.mk (hb);have n1_:=Aside0.mk (ho);clear HB;clear HO611;have HB:=n0_;have HO614:=n1_;clear n0_ n1_;clear ho hb hg hat))
  go_ret
  exact ⟨_,by first|rfl|(simp [errW_none,errW_some] <;> rfl)|(simp [*,errW_none,errW_some] <;> rfl),by (with_reducible repeat (first|apply rA_|apply rN_|apply rD_));exact HO614.out,by repeat (first|(with_reducible first|exact HB.out|apply bA_|apply bN_|apply bD_)|exact HB.out)⟩
 ·rw [if_neg c2] at H
  exact absurd H (by simp)
end Go.Proofs.Ytainbaehfdhmbaa.PX
set_option linter.unusedVariables false
set_option linter.unusedSimpArgs false
namespace Go.Proofs.Ytainbaehfdhmbaa.PX
open Go.RowKit Go.Proofs.YtainbaehfdhmbaaW.PrintWords Go.Proofs.YtainbaehfdhmbaaW.PrintLast Go.Proofs.YtainbaehfdhmbaaW.PrintMore Go.Proofs.Ytainbaehfdhmbaa Go.Shelf
abbrev Cf := S38
structure MSt (W : World) (gm base : Nat) (As : Option Addr) (n cs : Nat) (vl vp : Value) (l : List Cf) (p : List ByteArray) : Prop where
  blk : W.heap[gm]? = some (.cells #[.slice As n cs, vl, vp] 63 (0, 0))
  hl : Kd.R k38 38 W base (fun k => some k ≠ vp.ownBlock) vl l
  hp : Kd.R Kd.string 9 W base (fun _ => True) vp p
  hb : base ≤ gm
theorem MSt.below {W W' : World} {gm base : Nat} {As : Option Addr} {n cs : Nat} {vl vp : Value} {l : List Cf} {p : List ByteArray} (h : MSt W gm base As n cs vl vp l p) (hb : Below W.heap.size W W') : MSt W' gm base As n cs vl vp l p :=
  ⟨blk_below h.blk hb, Kd.R_below h.hl hb, Kd.R_below h.hp hb, h.hb⟩
theorem MSt.lt {W : World} {gm base : Nat} {As : Option Addr} {n cs : Nat} {vl vp : Value} {l : List Cf} {p : List ByteArray} (h : MSt W gm base As n cs vl vp l p) : gm < W.heap.size := blk_lt h.blk
def MS (gm : Nat) (vl vp : Value) : Nat → Prop := fun k => k = gm ∨ some k = vl.ownBlock ∨ some k = vp.ownBlock
theorem clone_eq (p : List ByteArray) (h : p.length ≤ 1000000000) : slices_Clone_string_string.f p = some p := by
  unfold slices_Clone_string_string.f
  rw [Option.bind_some, if_pos (by rw [List.length_nil]; omega)]
  rfl
def mcfT : Bool × List (List Nat × List Nat) := (true, [([], []), ([], []), ([1], [1]), ([2], [2]), ([3], [3]), ([], []), ([5], [5]), ([6], [6]), ([7], [7]), ([8], [8]), ([], []), ([9, 10], [9, 10]), ([11], [11]), ([4, 12, 9], [4, 12]), ([0, 0, 1, 2, 3, 4, 5, 6, 7, 8, 9, 10, 11, 12, 13], [0]), ([14, 0, 1, 2, 3, 4, 5, 6, 7, 8, 9, 10, 11, 12, 13], [14]), ([15, 13, 13, 0, 1, 2, 3, 4, 5, 6, 7, 8, 9, 10, 11, 12, 13], [13, 15])])
def mcfB : List Nat := [0, 0, 2, 6, 14, 0, 32, 96, 224, 480, 0, 2016, 4064, 8190, 16383, 32767, 65535]
theorem mcf_tab : rtab .any (opsOf Try.f29 0) = mcfT := by kernel_rfl
theorem mcf_bits : waitsOk mcfT.2 mcfB = true := by kernel_rfl
set_option maxHeartbeats 8000000 in
set_option maxRecDepth 100000 in
theorem conflict_calls (gm base : Nat) (As : Option Addr) (n cs : Nat) (vl vp : Value) (l : List Cf) (p : List ByteArray) (kd : Int) (w : World) (h : MSt w gm base As n cs vl vp l p) (hl : l.length ≤ 1000000000) (hpl : p.length ≤ 1000000000) (hbs : base ≤ w.heap.size) :
    Calls Try.prog 29 #[.pointer (some ⟨gm, 0, none⟩), .int .i64 kd] w fun e w' => e = .returned (.tuple #[]) ∧ ∃ vl', MSt w' gm base As n cs vl' vp (l ++ [⟨p, kd⟩]) p ∧ Below base w w' ∧ Kept w w' (fun k => k = gm ∨ some k = vl.ownBlock) ∧ (vl'.ownBlock = vl.ownBlock ∨ ∃ q, vl'.ownBlock = some q ∧ w.heap.size ≤ q) := by
  obtain ⟨hblk, hhl, hhp, hbg⟩ := h
  obtain ⟨Ap, cp, rfl⟩ := Kd.R_slice hhp
  have hu := Try.underlying63
  have hu2 := Try.underlying38
  have hcl := Aside0.mk (clone_eq p hpl)
  have BK := Aside0.mk (blk_drew hblk)
  have HL := Aside0.mk (Kd.R_drew hhl)
  have HP := Aside0.mk (Kd.R_drew hhp)
  have HBb := Aside0.mk (bD_ (Below.refl base w))
  have HKp := Aside0.mk (Kept.drew (Kept.refl w (fun k => k = gm ∨ some k = vl.ownBlock)))
  have HS := Aside0.mk (show base ≤ w.drew.heap.size from hbs)
  have SW := Aside0.mk (show w.heap.size ≤ w.drew.heap.size from Nat.le_refl _)
  clear hblk hhl hhp
  go_enter Try.func29, Try.ntmps29
  try go_wp2
  refine start_ (n := 17) (S := fun w' => w'.cell? ⟨gm, 0, none⟩ = some (.slice As n cs) ∧ w'.cell? ⟨gm, 1, none⟩ = some vl ∧ w'.cell? ⟨gm, 2, none⟩ = some (.slice Ap p.length cp)) (ds := [16]) #[false, false, false, false, false, false, false, false, false, false, false, false, false, false, false, false, false] (by kernel_rfl) rfl rfl ⟨(blk_cell BK.out 0).trans rfl, (blk_cell BK.out 1).trans rfl, (blk_cell BK.out 2).trans rfl⟩ (fun hHeld => ?_); refine with_tabW mcf_tab mcf_bits (fun HT_ HW_ => ?_)
  generalize w.drew = W1_ at BK HL HP HBb HKp HS SW hHeld ⊢
  refine pure_ (i := 0) (N := some 4) (v := ?_) (a' := ?_) #[true, false, false, false, false, false, false, false, false, false, false, false, false, false, false, false, false] rfl rfl (any_of HT_.out (by kernel_rfl)) (fun _ _ _ h => h) (Or.inl ⟨by rfl, ?_⟩) ?_ ?_
  rotate_left
  · intro w'
    go_simp
    with_reducible rfl
  rotate_left
  · simp only [Act.put, List.setIfInBounds_toArray, List.set_cons_zero, List.set_cons_succ, i64_w, i32_w]
    rfl
  refine pure_ (i := 1) (N := some 5) (v := ?_) (a' := ?_) #[true, true, false, false, false, false, false, false, false, false, false, false, false, false, false, false, false] rfl rfl (any_of HT_.out (by kernel_rfl)) (fun _ _ _ h => h) (Or.inl ⟨by rfl, ?_⟩) ?_ ?_
  rotate_left
  · intro w'
    go_simp
    with_reducible rfl
  rotate_left
  · simp only [Act.put, List.setIfInBounds_toArray, List.set_cons_zero, List.set_cons_succ, i64_w, i32_w]
    rfl
  refine pure_ (i := 2) (N := some 6) (v := ?_) (a' := ?_) #[true, true, true, false, false, false, false, false, false, false, false, false, false, false, false, false, false] rfl rfl (any_of HT_.out (by kernel_rfl)) (fun _ _ _ h => h) (Or.inl ⟨by rfl, ?_⟩) ?_ ?_
  rotate_left
  · intro w'
    go_simp
    with_reducible rfl
  rotate_left
  · simp only [Act.put, List.setIfInBounds_toArray, List.set_cons_zero, List.set_cons_succ, i64_w, i32_w]
    rfl
  refine pure_ (i := 3) (N := some 7) (v := ?_) (a' := ?_) #[true, true, true, true, false, false, false, false, false, false, false, false, false, false, false, false, false] rfl rfl (any_of HT_.out (by kernel_rfl)) (fun _ _ _ h => h) (Or.inl ⟨by rfl, ?_⟩) ?_ ?_
  rotate_left
  · intro w'
    go_simp
    with_reducible rfl
  rotate_left
  · simp only [Act.put, List.setIfInBounds_toArray, List.set_cons_zero, List.set_cons_succ, i64_w, i32_w]
    rfl
  refine take_ (i := 4) (N := some 8) (v := ?_) (a' := ?_) #[true, true, true, true, true, false, false, false, false, false, false, false, false, false, false, false, false] rfl rfl (take_ofW HT_.out HW_.out (by kernel_rfl)) (fun _ _ _ h => h) (Or.inl ⟨by rfl, ?_⟩) hHeld ?_ ?_
  rotate_left
  · rintro w' ⟨s0, s1, s2⟩
    go_simp
    with_reducible rfl
  rotate_left
  · simp only [Act.put, List.setIfInBounds_toArray, List.set_cons_zero, List.set_cons_succ, i64_w, i32_w]
    rfl
  refine pure_ (i := 5) (N := some 9) (v := ?_) (a' := ?_) #[true, true, true, true, true, true, false, false, false, false, false, false, false, false, false, false, false] rfl rfl (any_of HT_.out (by kernel_rfl)) (fun _ _ _ h => h) (Or.inl ⟨by rfl, ?_⟩) ?_ ?_
  rotate_left
  · intro w'
    go_simp
    with_reducible rfl
  rotate_left
  · simp only [Act.put, List.setIfInBounds_toArray, List.set_cons_zero, List.set_cons_succ, i64_w, i32_w]
    rfl
  refine pure_ (i := 6) (N := some 10) (v := ?_) (a' := ?_) #[true, true, true, true, true, true, true, false, false, false, false, false, false, false, false, false, false] rfl rfl (any_of HT_.out (by kernel_rfl)) (fun _ _ _ h => h) (Or.inl ⟨by rfl, ?_⟩) ?_ ?_
  rotate_left
  · intro w'
    go_simp
    with_reducible rfl
  rotate_left
  · simp only [Act.put, List.setIfInBounds_toArray, List.set_cons_zero, List.set_cons_succ, i64_w, i32_w]
    rfl
  refine pure_ (i := 7) (N := some 11) (v := ?_) (a' := ?_) #[true, true, true, true, true, true, true, true, false, false, false, false, false, false, false, false, false] rfl rfl (any_of HT_.out (by kernel_rfl)) (fun _ _ _ h => h) (Or.inl ⟨by rfl, ?_⟩) ?_ ?_
  rotate_left
  · intro w'
    go_simp
    with_reducible rfl
  rotate_left
  · simp only [Act.put, List.setIfInBounds_toArray, List.set_cons_zero, List.set_cons_succ, i64_w, i32_w]
    rfl
  refine take_ (i := 8) (N := some 12) (v := ?_) (a' := ?_) #[true, true, true, true, true, true, true, true, true, false, false, false, false, false, false, false, false] rfl rfl (take_ofW HT_.out HW_.out (by kernel_rfl)) (fun _ _ _ h => h) (Or.inl ⟨by rfl, ?_⟩) hHeld ?_ ?_
  rotate_left
  · rintro w' ⟨s0, s1, s2⟩
    go_simp
    with_reducible rfl
  rotate_left
  · simp only [Act.put, List.setIfInBounds_toArray, List.set_cons_zero, List.set_cons_succ, i64_w, i32_w]
    rfl
  refine pure_ (i := 10) (N := some 14) (v := ?_) (a' := ?_) #[true, true, true, true, true, true, true, true, true, false, true, false, false, false, false, false, false] rfl rfl (any_of HT_.out (by kernel_rfl)) (fun _ _ _ h => h) (Or.inl ⟨by rfl, ?_⟩) ?_ ?_
  rotate_left
  · intro w'
    go_simp
    with_reducible rfl
  rotate_left
  · simp only [Act.put, List.setIfInBounds_toArray, List.set_cons_zero, List.set_cons_succ, i64_w, i32_w]
    rfl
  refine one_ (i := 9) (N := some 13) #[true, true, true, true, true, true, true, true, true, true, true, false, false, false, false, false, false] rfl rfl (one_of HT_.out (by kernel_rfl)) (by decide) (fun K hK => ?_)
  refine goes_ Try.func35 (by kernel_rfl) rfl #[.slice Ap p.length cp] (by rfl) rfl rfl (by (try simp only [List.map_toArray, List.map_cons, List.map_nil]); first | done | rfl) ?_
  refine (slices_Clone_string_string.calls Ap cp p p _ (Kd.R_reads' HP.out).2.2 (Kd.R_reads' HP.out).2.1 hcl.out).mono ?_
  rintro e w3 ⟨v13, rfl, ho, hb⟩
  refine ⟨_, rfl, ?_⟩
  obtain ⟨Ao, co, rfl⟩ := Kd.R_slice ho
  have LO := Aside0.mk (fun k (hk : some k = (.slice Ao p.length co : Value).ownBlock) => Kd.R_base ho k hk.symm)
  have LP := Aside0.mk (Kd.R_lt HP.out)
  have LL := Aside0.mk (Kd.R_lt HL.out)
  have n0_ := Aside0.mk (blk_below BK.out hb)
  have n1_ := Aside0.mk (Kd.R_below HL.out hb)
  have n2_ := Aside0.mk (Kd.R_below HP.out hb)
  have n3_ := Aside0.mk (below_then HBb.out HS.out hb)
  have n4_ := Aside0.mk (Kept.below HKp.out hb)
  have n5_ := Aside0.mk (Kd.R_tight rfl (Kd.R_lower ho HS.out))
  have n6_ := Aside0.mk (Nat.le_trans HS.out hb.size)
  have SZ := Aside0.mk hb.size
  clear BK HL HP HBb HKp ho hb HS
  have BK := n0_
  have HL := n1_
  have HP := n2_
  have HBb := n3_
  have HKp := n4_
  have HC := n5_
  have HS := n6_
  clear n0_ n1_ n2_ n3_ n4_ n5_ n6_
  refine hK.out _ _ ⟨(blk_cell BK.out 0).trans rfl, (blk_cell BK.out 1).trans rfl, (blk_cell BK.out 2).trans rfl⟩ (fun hHeld => ?_)
  clear hK K
  refine norm_ (a' := ?_) ?_ ?_
  rotate_left
  · show Act.put _ (some 13) _ = _
    simp only [Act.put, List.setIfInBounds_toArray, List.set_cons_zero, List.set_cons_succ, i64_w, i32_w]
    rfl
  refine pure_ (i := 11) (N := some 15) (v := ?_) (a' := ?_) #[true, true, true, true, true, true, true, true, true, true, true, true, false, false, false, false, false] rfl rfl (any_of HT_.out (by kernel_rfl)) (fun _ _ _ h => h) (Or.inl ⟨by rfl, ?_⟩) ?_ ?_
  rotate_left
  · intro w'
    go_simp
    with_reducible rfl
  rotate_left
  · simp only [Act.put, List.setIfInBounds_toArray, List.set_cons_zero, List.set_cons_succ, i64_w, i32_w]
    rfl
  refine one_ (i := 12) (N := some 16) #[true, true, true, true, true, true, true, true, true, true, true, true, true, false, false, false, false] rfl rfl (one_of HT_.out (by kernel_rfl)) (by decide) (fun K hK => ?_)
  refine value_ (w1 := ?_) (v := ?_) (by rfl) rfl ?_ ?_
  rotate_left 2
  · go_simp
    constructor
    · rfl
    · rfl
  refine hK.out _ _ ⟨(blk_cell (blk_alloc BK.out _) 0).trans rfl, (blk_cell (blk_alloc BK.out _) 1).trans rfl, (blk_cell (blk_alloc BK.out _) 2).trans rfl⟩ (fun hHeld => ?_)
  clear hK K
  refine norm_ (a' := ?_) ?_ ?_
  rotate_left
  · show Act.put _ (some 16) _ = _
    simp only [Act.put, List.setIfInBounds_toArray, List.set_cons_zero, List.set_cons_succ, i64_w, i32_w]
    rfl
  refine one_ (i := 13) (N := some 17) #[true, true, true, true, true, true, true, true, true, true, true, true, true, true, false, false, false] rfl rfl (one_of HT_.out (by kernel_rfl)) (by decide) (fun K hK => ?_)
  refine Kd.R_append_step k38 (w0 := w) base (by rfl) (.tmp 8) (.tmp 16) 27 38 (.agg #[(.slice none 0 0), (.int .i64 0)]) 32 rfl Try.underlying27 info38 rfl (by decide) (by omega) vl l (⟨p, kd⟩ : S38) [.slice Ao p.length co, .int .i64 kd] (fun k_ => some k_ ≠ (.slice Ap p.length cp : Value).ownBlock) (fun k_ => some k_ = (.slice Ao p.length co : Value).ownBlock) rfl rfl ?aP ?aK ?aF ?aO ?aB ?aS ?aL ?_
  (case aP => exact k38_mkM _ _ _ (⟨p, kd⟩ : S38) HC.out)
  (case aK => exact fun k hk => ⟨fun h => by have h1 := LO.out k hk; have h2 := LP.out k h.symm; omega, fun h => by have h1 := LO.out k hk; have h2 := LL.out k h.symm; omega⟩)
  (case aF => exact fun k hk h => by have h2 := LP.out k h.symm; have h3 := SZ.out; omega)
  (case aO => exact HL.out)
  (case aB => exact HBb.out)
  (case aS => exact HS.out)
  (case aL => omega)
  intro v17 w4 ho hb hg hat
  have n0_ := Aside0.mk (blk_grown (g := gm) (o := .cells #[.slice As n cs, vl, .slice Ap p.length cp] 63 (0, 0)) BK.out hg (Kd.R_ne HL.out BK.out (by decide)))
  have n2_ := Aside0.mk (Kd.R_over' HP.out (Kd.R_typed HL.out) (by decide) hg)
  have n4_ := Aside0.mk (Kept.of_grown hg HKp.out (fun k hk => .inl (.inr hk.symm)))
  have n6_ := Aside0.mk (Nat.le_trans HS.out hg.size)
  have AT := Aside0.mk hat
  clear BK HL HP HBb HKp HS hg hat
  have BK := n0_
  have HL := Aside0.mk ho
  have HP := n2_
  have HBb := Aside0.mk hb
  have HKp := n4_
  have HS := n6_
  clear n0_ n2_ n4_ n6_ ho hb
  obtain ⟨A17, c17, rfl⟩ := Kd.R_slice HL.out
  refine hK.out _ _ ⟨(blk_cell BK.out 0).trans rfl, (blk_cell BK.out 1).trans rfl, (blk_cell BK.out 2).trans rfl⟩ (fun hHeld => ?_)
  clear hK K
  refine norm_ (a' := ?_) ?_ ?_
  rotate_left
  · show Act.put _ (some 17) _ = _
    simp only [Act.put, List.setIfInBounds_toArray, List.set_cons_zero, List.set_cons_succ, i64_w, i32_w]
    rfl
  refine pure_ (i := 14) (N := some 18) (v := ?_) (a' := ?_) #[true, true, true, true, true, true, true, true, true, true, true, true, true, true, true, false, false] rfl rfl (any_of HT_.out (by kernel_rfl)) (fun _ _ _ h => h) (Or.inl ⟨by rfl, ?_⟩) ?_ ?_
  rotate_left
  · intro w'
    go_simp
    with_reducible rfl
  rotate_left
  · simp only [Act.put, List.setIfInBounds_toArray, List.set_cons_zero, List.set_cons_succ, i64_w, i32_w]
    rfl
  refine pure_ (i := 15) (N := some 19) (v := ?_) (a' := ?_) #[true, true, true, true, true, true, true, true, true, true, true, true, true, true, true, true, false] rfl rfl (any_of HT_.out (by kernel_rfl)) (fun _ _ _ h => h) (Or.inl ⟨by rfl, ?_⟩) ?_ ?_
  rotate_left
  · intro w'
    go_simp
    with_reducible rfl
  rotate_left
  · simp only [Act.put, List.setIfInBounds_toArray, List.set_cons_zero, List.set_cons_succ, i64_w, i32_w]
    rfl
  refine last_ (i := 16) (N := none) #[true, true, true, true, true, true, true, true, true, true, true, true, true, true, true, true, true] rfl rfl (one_of HT_.out (by kernel_rfl)) (by decide) (fun K hK => ?_)
  have hs52 : w4.cell? ⟨gm, 1, none⟩ = some vl := (blk_cell BK.out 1).trans rfl
  have hfs52 := blk_frozen BK.out 1
  refine skip_ (w1 := ?_) (by rfl) rfl ?_ ?_
  rotate_left
  · go_simp
    rfl
  refine hK.out _ _ ?_
  clear hK K
  refine done_ (done_of HT_.out (by kernel_rfl)) ?_
  try go_wp2
  have hlen : (l ++ [(⟨p, kd⟩ : Cf)]).length = l.length + 1 := by simp
  rw [hlen] at HL AT
  refine bodyPost_end (results_none rfl _ _ _) rfl ⟨rfl, .slice A17 (l.length + 1) c17, ⟨?_, ?_, ?_, hbg⟩, ?_, ?_, ?_⟩
  · exact blk_put (cs := #[.slice As n cs, vl, .slice Ap p.length cp]) BK.out 1 _ rfl
  · exact Kd.R_mono (Kd.R_far (p := ⟨gm, 1, none⟩) (Kd.R_types HL.out BK.out (by decide)) (fun _ hk => hk.2) _) (fun _ hk => hk.1)
  · exact Kd.R_mono (Kd.R_far (p := ⟨gm, 1, none⟩) (Kd.R_types HP.out BK.out (by decide)) (fun _ hk => hk.2) _) (fun _ _ => trivial)
  · exact HBb.out.setCell hbg _
  · exact Kept.setCell HKp.out (.inl (.inl rfl)) _
  · rcases AT.out with h | ⟨q, h1, h2⟩
    · exact .inl h
    · exact .inr ⟨q, h1, Nat.le_trans SW.out (Nat.le_trans SZ.out h2)⟩
end Go.Proofs.Ytainbaehfdhmbaa.PX
set_option linter.unusedVariables false
set_option linter.unusedSimpArgs false
namespace Go.Proofs.Ytainbaehfdhmbaa.PX
open Go.RowKit Go.Proofs.YtainbaehfdhmbaaW.PrintWords Go.Proofs.YtainbaehfdhmbaaW.PrintLast Go.Proofs.YtainbaehfdhmbaaW.PrintMore Go.Proofs.Ytainbaehfdhmbaa Go.Shelf
theorem anyN_list {α:Type} (l:List α) (q:α→Bool):anyN (fun i=>(l[i]?).elim false q) l.length=l.any q:=by
 rw [anyN_eq,Bool.eq_iff_iff,List.any_eq_true,List.any_eq_true]
 constructor
 ·rintro ⟨i,hi,h⟩
  have hi:=List.mem_range.1 hi
  rw [List.getElem?_eq_getElem hi] at h
  exact ⟨l[i],List.getElem_mem hi,h⟩
 ·rintro ⟨x,hx,h⟩
  obtain ⟨i,hi,rfl⟩:=List.mem_iff_getElem.1 hx
  exact ⟨i,List.mem_range.2 hi,by rw [List.getElem?_eq_getElem hi];exact h⟩
theorem cell_new (w:World) (o:Array Value) (t:TypeId) (B i:Nat) {v:Value} (hB:B=w.heap.size) (hv:o[i]? = some v):(w.alloc (.cells o t)).cell? ⟨B,i,none⟩=some v:=by
 subst hB
 rw [← hv]
 simp
def hasT (t:Tr) (n:ByteArray):Bool:=t.any fun x=>decide (x.f0=n)
def lacksM (t:Tr) (f:S56):Bool:=f.f2 && f.f0.f1.any fun n=>!hasT t n
set_option maxHeartbeats 4000000 in
set_option maxRecDepth 100000 in
theorem edge_pred (n:ByteArray) (B:Nat) (y:ByteArray) (A1:Option Addr) (m c1:Nat) (W:World) (hB:W.cell? ⟨B,0,none⟩=some (.string n)) :
  Calls Try.prog 54 #[.agg #[.string y,.slice A1 m c1],.pointer (some ⟨B,0,none⟩)] W fun e w'=>e=.returned (.bool (decide (y=n)))∧Below W.heap.size W w':=by
 have hu:=Try.underlying51
 have hB1:(W.alloc (.cells #[.string y,.slice A1 m c1] 51)).cell? ⟨B,0,none⟩=some (.string n):=Lib.cell?_alloc_some _ hB
 have hr:=Aside0.mk (same_eq y n)
 generalize decide (y=n)=r at hr ⊢
 have hBl:=World.block_lt_of_cell? W _ hB
 clear hB
 go_enter Try.func54,Try.ntmps54
 go_wp2
 go_ret
 refine ⟨?_,below_alloc (Below.refl _ _) _⟩
 rw [← hr.out]
 rfl
set_option maxHeartbeats 4000000 in
set_option maxRecDepth 100000 in
theorem there_pred (n:ByteArray) (B:Nat) (A:Option Addr) (c:Nat) (t:Tr) (W:World) (hB:W.cell? ⟨B,0,none⟩=some (.slice A t.length c)) (hC:Kd.C k51 W A t.length t) (hl:t.length≤1000000000000) :
  Calls Try.prog 53 #[.string n,.pointer (some ⟨B,0,none⟩)] W fun e w'=>e=.returned (.bool (hasT t n))∧Below W.heap.size W w':=by
 have eg:∀ args w,(callFunc 54 args).run Try.prog w=.ok (.enter 54 args) w:=enters_of Try.func54 (by kernel_rfl) rfl
 have hB1:(W.alloc (.cells #[.string n] 9)).cell? ⟨B,0,none⟩=_:=Lib.cell?_alloc_some _ hB
 have hcon:=anyE 54 #[.pointer (some ⟨W.heap.size,0,none⟩)] eg A c t (fun i=>(t[i]?).elim false fun x=>decide (x.f0=n)) (W.alloc (.cells #[.string n] 9)) (Kd.C_alloc hC _) hl
  (fun i hi W' B1 c2 hW hC hc=>by
   have hb0:(W.alloc (.cells #[.string n] 9)).cell? ⟨W.heap.size,0,none⟩=some (.string n):=by simp
   have hb:=(hW.cell (World.block_lt_of_cell? _ _ hb0)).trans hb0
   have:=edge_pred n W.heap.size (t[i]).f0 B1 (t[i]).f1.length c2 W' hb
   rw [List.getElem?_eq_getElem hi]
   exact this)
 rw [anyN_list] at hcon
 change Calls _ _ _ _ (fun e w'=>e=.returned (.bool (hasT t n))∧_) at hcon
 have hBl:=World.block_lt_of_cell? W _ hB
 clear hB hC
 generalize hasT t n=r at hcon ⊢
 generalize t.length=m at hB1 hcon hl
 go_enter Try.func53,Try.ntmps53
 go_wp2_with (go_at_call 44;refine hcon.mono ?_;rintro e w' ⟨rfl,hb'⟩)
 go_ret
 exact ⟨rfl,below_then (below_alloc (Below.refl _ _) _) (by simp) hb'⟩
set_option maxHeartbeats 4000000 in
set_option maxRecDepth 100000 in
theorem nowhere_pred (n:ByteArray) (B B2:Nat) (A:Option Addr) (c:Nat) (t:Tr) (W:World) (hB:W.cell? ⟨B,0,none⟩=some (.slice A t.length c)) (hB2:W.cell? ⟨B2,0,none⟩=some (.func (.func 53) #[] #[.pointer (some ⟨B,0,none⟩)])) (hC:Kd.C k51 W A t.length t) (hl:t.length≤1000000000000) :
  Calls Try.prog 56 #[.string n,.pointer (some ⟨B2,0,none⟩)] W fun e w'=>e=.returned (.bool (!hasT t n))∧Below W.heap.size W w':=by
 have hcon:=there_pred n B A c t W hB hC hl
 generalize hasT t n=r at hcon ⊢
 clear hB hC hl
 go_enter Try.func56,Try.ntmps56
 go_wp2_with (go_at_call 53;refine hcon.mono ?_;rintro e w' ⟨rfl,hb'⟩)
 go_ret
 exact ⟨rfl,hb'⟩
set_option maxHeartbeats 4000000 in
set_option maxRecDepth 100000 in
theorem lacks_calls (A0:Option Addr) (c0:Nat) (t:Tr) (f:S56) (A1:Option Addr) (c1:Nat) (w:World) (hT:Kd.C k51 w A0 t.length t) (hC:Kd.C Kd.string w A1 f.f0.f1.length f.f0.f1) (hc:f.f0.f1.length≤c1) (hl:t.length≤1000000000000) (hf:f.f0.f1.length≤1000000000000) :
  Calls Try.prog 41 #[.slice A0 t.length c0,.agg #[.bool f.f0.f0,.slice A1 f.f0.f1.length c1,.int .i64 f.f1,.bool f.f2]] w fun e w'=>e=.returned (.bool (lacksM t f))∧Below w.heap.size w w':=by
 have eg:∀ args w,(callFunc 56 args).run Try.prog w=.ok (.enter 56 args) w:=enters_of Try.func56 (by kernel_rfl) rfl
 have hcon:∀ W,Below w.heap.size w W→W.cell? ⟨w.heap.size,0,none⟩=some (.slice A0 t.length c0)→W.cell? ⟨w.heap.size+1+1,0,none⟩=some (.func (.func 53) #[] #[.pointer (some ⟨w.heap.size,0,none⟩)])→Calls Try.prog 55 #[.slice A1 f.f0.f1.length c1,.func (.func 56) #[] #[.pointer (some ⟨w.heap.size+1+1,0,none⟩)]] W fun e w'=>e=.returned (.bool (f.f0.f1.any fun n=>!hasT t n))∧Below W.heap.size W w':=fun W hW hb1 hb2=>by
  have:=anyS 56 #[.pointer (some ⟨w.heap.size+1+1,0,none⟩)] eg A1 c1 f.f0.f1 (fun i=>(f.f0.f1[i]?).elim false fun n=>!hasT t n) W (Kd.C_below hC hW) hf
   (fun i hi W' hW'=>by
    have h1:=(hW'.cell (World.block_lt_of_cell? _ _ hb1)).trans hb1
    have h2:=(hW'.cell (World.block_lt_of_cell? _ _ hb2)).trans hb2
    have:=nowhere_pred (f.f0.f1[i]) w.heap.size (w.heap.size+1+1) A0 c0 t W' h1 h2 (Kd.C_below (Kd.C_below hT hW) hW') hl
    rw [List.getElem?_eq_getElem hi]
    exact this)
  rw [anyN_list] at this
  exact this
 unfold lacksM
 generalize (f.f0.f1.any fun n=>!hasT t n)=r at hcon ⊢
 have HCON:=Aside0.mk hcon
 clear hcon hT hC
 have hu:=Try.underlying56
 have hu2:=Try.underlying54
 generalize f.f0.f0=y0 at *
 generalize f.f0.f1.length=m at *
 generalize f.f1=y1 at *
 generalize t.length=n at *
 cases hy:f.f2 with
 | false =>
  go_enter Try.func41,Try.ntmps41
  go_wp2
  go_ret
  exact ⟨rfl,below_alloc (below_alloc (below_alloc (Below.refl _ _) _) _) _⟩
 | true =>
  go_enter Try.func41,Try.ntmps41
  go_wp2_with (go_at_call 55;go_loud (refine (HCON.out _ ?s1 ?s2 ?s3).mono ?_;(case s1=>exact below_alloc (below_alloc (below_alloc (Below.refl _ _) _) _) _);(case s2=>exact Lib.cell?_alloc_some _ (Lib.cell?_alloc_some _ (cell_new _ _ _ _ _ rfl rfl)));(case s3=>exact cell_new _ _ _ _ _ (by simp) rfl);rintro e w' ⟨rfl,hb'⟩))
  go_ret
  exact ⟨rfl,below_then (below_alloc (below_alloc (below_alloc (Below.refl _ _) _) _) _) (by simp;omega) hb'⟩
end Go.Proofs.Ytainbaehfdhmbaa.PX
set_option linter.unusedVariables false
set_option linter.unusedSimpArgs false
namespace Go.Proofs.Ytainbaehfdhmbaa.PX
open Go.RowKit Go.Proofs.YtainbaehfdhmbaaW.PrintWords Go.Proofs.YtainbaehfdhmbaaW.PrintLast Go.Proofs.YtainbaehfdhmbaaW.PrintMore Go.Proofs.Ytainbaehfdhmbaa Go.Shelf
def levelM (s:Sc) (d:Int) (t:Tr):Bool :=
 if d < 0∨(s.length:Int)≤d then false
 else if ((rd_T59 s d).f1 && !decide (t.length=1)) || ((rd_T59 s d).f2 && decide (t.length=0)) then false
 else !((rd_T59 s d).f0.any (lacksM t)) && !(t.any fun x=>decide (toM s d x.f0 < 0))
set_option maxHeartbeats 4000000 in
set_option maxRecDepth 100000 in
theorem lacks_pred (B:Nat) (A0:Option Addr) (c0:Nat) (t:Tr) (f:S56) (A1:Option Addr) (c1:Nat) (w:World) (hB:w.cell? ⟨B,0,none⟩=some (.slice A0 t.length c0)) (hT:Kd.C k51 w A0 t.length t) (hC:Kd.C Kd.string w A1 f.f0.f1.length f.f0.f1) (hc:f.f0.f1.length≤c1) (hl:t.length≤1000000000000) (hf:f.f0.f1.length≤1000000000000) :
  Calls Try.prog 40 #[.agg #[.bool f.f0.f0,.slice A1 f.f0.f1.length c1,.int .i64 f.f1,.bool f.f2],.pointer (some ⟨B,0,none⟩)] w fun e w'=>e=.returned (.bool (lacksM t f))∧Below w.heap.size w w':=by
 have hcon:=lacks_calls A0 c0 t f A1 c1 (w.alloc (.cells #[.bool f.f0.f0,.slice A1 f.f0.f1.length c1,.int .i64 f.f1,.bool f.f2] 56)) (Kd.C_alloc hT _) (Kd.C_alloc hC _) hc hl hf
 have hB1:(w.alloc (.cells #[.bool f.f0.f0,.slice A1 f.f0.f1.length c1,.int .i64 f.f1,.bool f.f2] 56)).cell? ⟨B,0,none⟩=_:=Lib.cell?_alloc_some _ hB
 clear hT hC hB
 generalize lacksM t f=r at hcon ⊢
 generalize f.f0.f0=y0 at *
 generalize f.f0.f1.length=m at *
 generalize f.f1=y1 at *
 generalize f.f2=y2 at *
 generalize t.length=n at *
 have hu:=Try.underlying56
 have hu2:=Try.underlying54
 go_enter Try.func40,Try.ntmps40
 go_wp2_with (go_at_call 41;refine hcon.mono ?_;rintro e w' ⟨rfl,hb'⟩)
 go_ret
 exact ⟨rfl,below_then (below_alloc (Below.refl _ _) _) (by simp) hb'⟩
set_option maxHeartbeats 4000000 in
set_option maxRecDepth 100000 in
theorem none_pred (B B2:Nat) (A0:Option Addr) (c0:Nat) (s:Sc) (d:Int) (x:S51) (A1:Option Addr) (c1:Nat) (w:World) (hB:w.cell? ⟨B,0,none⟩=some (.slice A0 s.length c0)) (hB2:w.cell? ⟨B2,0,none⟩=some (.int .i64 d)) (hS:Kd.C k59 w A0 s.length s) (hc:s.length≤c0) (hok:ScOk s) :
  Calls Try.prog 42 #[.agg #[.string x.f0,.slice A1 x.f1.length c1],.pointer (some ⟨B,0,none⟩),.pointer (some ⟨B2,0,none⟩)] w fun e w'=>e=.returned (.bool (decide (toM s d x.f0 < 0)))∧Below w.heap.size w w':=by
 have hcon:=schema_To.calls A0 c0 s d x.f0 (toM s d x.f0) (w.alloc (.cells #[.string x.f0,.slice A1 x.f1.length c1] 51)) (Kd.C_alloc hS _) hc (by unfold schema_To.f;rw [if_pos hok])
 have hB1:(w.alloc (.cells #[.string x.f0,.slice A1 x.f1.length c1] 51)).cell? ⟨B,0,none⟩=_:=Lib.cell?_alloc_some _ hB
 have hB3:(w.alloc (.cells #[.string x.f0,.slice A1 x.f1.length c1] 51)).cell? ⟨B2,0,none⟩=_:=Lib.cell?_alloc_some _ hB2
 clear hS hB hB2 hok
 generalize toM s d x.f0=r at hcon ⊢
 generalize x.f0=y0 at *
 generalize x.f1.length=m at *
 generalize s.length=n at *
 have hu:=Try.underlying51
 go_enter Try.func42,Try.ntmps42
 go_wp2_with (go_at_call 37;refine hcon.mono ?_;rintro e w' ⟨rfl,hb'⟩)
 go_ret
 exact ⟨rfl,below_then (below_alloc (Below.refl _ _) _) (by simp) hb'⟩
def schema_Level.f (l0:Sc) (a1:Int) (l2:Tr):Option Bool:=if ScOk l0∧l2.length≤1000000000000 then some (levelM l0 a1 l2) else none
set_option maxHeartbeats 16000000 in
set_option maxRecDepth 100000 in
theorem schema_Level.calls (A0:Option Addr) (c0:Nat) (l0:List S59) (a1:Int) (A2:Option Addr) (c2:Nat) (l2:List S51) (r:Bool) (w:World) (hr0:Kd.C k59 w A0 l0.length l0) (hc0:l0.length≤c0) (hr2:Kd.C k51 w A2 l2.length l2) (hc2:l2.length≤c2) (h:schema_Level.f l0 a1 l2=some r) :
  Calls Try.prog 32 #[.slice A0 l0.length c0,.int .i64 a1,.slice A2 l2.length c2] w fun e w'=>e=.returned (.bool r)∧Below w.heap.size w w':=by
 unfold schema_Level.f at h
 split at h
 case isFalse=>cases h
 rename_i hok
 obtain ⟨hok,hl⟩:=hok
 obtain rfl:=Option.some.inj h
 clear h
 have hu:=Try.underlying59
 have hu2:=Try.underlying56
 by_cases h1:a1 < 0
 ·rw [levelM,if_pos (.inl h1)]
  clear hr0 hok hc0 hr2 hl hc2
  generalize l0.length=n
  generalize l2.length=m
  go_enter Try.func32,Try.ntmps32
  go_wp2
  go_ret
  exact ⟨rfl,below_alloc (below_alloc (below_alloc (Below.refl _ _) _) _) _⟩
 by_cases h2:a1 < (l0.length:Int)
 ·rw [levelM,if_neg (by omega)]
  have hm:=rdD_mem (by omega) h2
  obtain ⟨hf1,hf2⟩:=hok.2 _ hm
  clear hm
  obtain ⟨ad,A1,c1,e0,hx0,hx1,hx2,hx3,hx4⟩:=at_T59 hr0 a1 (by omega) h2
  have eg:∀ args w,(callFunc 40 args).run Try.prog w=.ok (.enter 40 args) w:=enters_of Try.func40 (by kernel_rfl) rfl
  have eg2:∀ args w,(callFunc 42 args).run Try.prog w=.ok (.enter 42 args) w:=enters_of Try.func42 (by kernel_rfl) rfl
  generalize (rd_T59 l0 a1).f0=fs at hx0 hx3 hx4 hf1 hf2 ⊢
  generalize (rd_T59 l0 a1).f1=one at hx1 ⊢
  generalize (rd_T59 l0 a1).f2=som at hx2 ⊢
  have HL1:Aside0 (∀ W,Below w.heap.size w W→W.cell? ⟨w.heap.size+1+1,0,none⟩=some (.slice A2 l2.length c2)→Calls Try.prog 43 #[.slice A1 fs.length c1,.func (.func 40) #[] #[.pointer (some ⟨w.heap.size+1+1,0,none⟩)]] W fun e w'=>e=.returned (.bool (fs.any (lacksM l2)))∧Below W.heap.size W w'∧w'.cell? ⟨w.heap.size+1+1,0,none⟩=some (.slice A2 l2.length c2)):=⟨fun W hW hb=>by
   have:=anyF 40 #[.pointer (some ⟨w.heap.size+1+1,0,none⟩)] eg A1 c1 fs (fun i=>(fs[i]?).elim false (lacksM l2)) W (Kd.C_below hx4 hW) hf1
    (fun i hi W' B1 c3 hW' hC hc=>by
     have hb1:=(hW'.cell (World.block_lt_of_cell? _ _ hb)).trans hb
     have:=lacks_pred (w.heap.size+1+1) A2 c2 l2 (fs[i]) B1 c3 W' hb1 (Kd.C_below (Kd.C_below hr2 hW) hW') (Kd.C_below hC hW') hc hl (hf2 _ (List.getElem_mem hi))
     rw [List.getElem?_eq_getElem hi]
     exact this)
   rw [anyN_list] at this
   exact this.mono fun e w' h=>⟨h.1,h.2,(h.2.cell (World.block_lt_of_cell? _ _ hb)).trans hb⟩⟩
  have HL2:Aside0 (∀ W W',Below w.heap.size w W→W.cell? ⟨w.heap.size,0,none⟩=some (.slice A0 l0.length c0)→W.cell? ⟨w.heap.size+1,0,none⟩=some (.int .i64 a1)→Below W.heap.size W W'→Calls Try.prog 44 #[.slice A2 l2.length c2,.func (.func 42) #[] #[.pointer (some ⟨w.heap.size,0,none⟩),.pointer (some ⟨w.heap.size+1,0,none⟩)]] W' fun e w'=>e=.returned (.bool (l2.any fun x=>decide (toM l0 a1 x.f0 < 0)))∧Below W'.heap.size W' w'):=⟨fun W W0 hW hba hbb hWW=>by
   have hba:=(hWW.cell (World.block_lt_of_cell? _ _ hba)).trans hba
   have hbb:=(hWW.cell (World.block_lt_of_cell? _ _ hbb)).trans hbb
   have hW:=below_then hW hW.size hWW
   have:=anyE 42 #[.pointer (some ⟨w.heap.size,0,none⟩),.pointer (some ⟨w.heap.size+1,0,none⟩)] eg2 A2 c2 l2 (fun i=>(l2[i]?).elim false fun x=>decide (toM l0 a1 x.f0 < 0)) W0 (Kd.C_below hr2 hW) hl
    (fun i hi W' B1 c3 hW' hC hc=>by
     have hb1:=(hW'.cell (World.block_lt_of_cell? _ _ hba)).trans hba
     have hb2:=(hW'.cell (World.block_lt_of_cell? _ _ hbb)).trans hbb
     have:=none_pred w.heap.size (w.heap.size+1) A0 c0 l0 a1 (l2[i]) B1 c3 W' hb1 hb2 (Kd.C_below (Kd.C_below hr0 hW) hW') hc0 hok
     rw [List.getElem?_eq_getElem hi]
     exact this)
   rw [anyN_list] at this
   exact this⟩
  clear hr0 hr2 hx4 hf2 hx3 hok hf1 hc0 eg eg2 hc2
  generalize fs.any (lacksM l2)=r1 at HL1 ⊢
  generalize (l2.any fun x=>decide (toM l0 a1 x.f0 < 0))=r2 at HL2 ⊢
  generalize fs.length=nf at hx0 HL1
  subst e0
  generalize l0.length=n0 at h2 HL2 ⊢
  generalize l2.length=n2 at hl HL1 HL2 ⊢
  have hx0':=Lib.cell?_alloc_some (.cells #[.slice A2 n2 c2] 24) (Lib.cell?_alloc_some (.cells #[.int .i64 a1] 3) (Lib.cell?_alloc_some (.cells #[.slice (some ad) n0 c0] 31) hx0))
  have hx1':=Lib.cell?_alloc_some (.cells #[.slice A2 n2 c2] 24) (Lib.cell?_alloc_some (.cells #[.int .i64 a1] 3) (Lib.cell?_alloc_some (.cells #[.slice (some ad) n0 c0] 31) hx1))
  have hx2':=Lib.cell?_alloc_some (.cells #[.slice A2 n2 c2] 24) (Lib.cell?_alloc_some (.cells #[.int .i64 a1] 3) (Lib.cell?_alloc_some (.cells #[.slice (some ad) n0 c0] 31) hx2))
  clear hx0 hx1 hx2
  have e1:((n2:Int) == 1)=decide (n2=1):=by rw [Bool.eq_iff_iff,beq_iff_eq,decide_eq_true_eq];omega
  have e2:((n2:Int) != 1) = !decide (n2=1):=by rw [bne,e1]
  have e3:((n2:Int) == 0)=decide (n2=0):=by rw [Bool.eq_iff_iff,beq_iff_eq,decide_eq_true_eq];omega
  generalize decide (n2=1)=q1 at e1 e2 ⊢
  generalize decide (n2=0)=q0 at e3 ⊢
  cases one <;> cases som <;> cases q1 <;> cases q0 <;> cases r1 <;> (
   go_enter Try.func32,Try.ntmps32
   go_wp2_with (first
    | (go_at_call 43;refine (HL1.out _ ?s1 ?s2).mono ?_;(case s1=>exact below_alloc (below_alloc (below_alloc (below_alloc (Below.refl _ _) _) _) _) _);(case s2=>exact Lib.cell?_alloc_some _ (cell_new _ _ _ _ _ (by simp) rfl));rintro e w' ⟨rfl,hb',hc'⟩)
    | (go_at_call 44;refine (HL2.out _ _ ?s1 ?s2 ?s3 hb').mono ?_;(case s1=>exact below_alloc (below_alloc (below_alloc (below_alloc (Below.refl _ _) _) _) _) _);(case s2=>exact Lib.cell?_alloc_some _ (Lib.cell?_alloc_some _ (Lib.cell?_alloc_some _ (cell_new _ _ _ _ _ rfl rfl))));(case s3=>exact Lib.cell?_alloc_some _ (Lib.cell?_alloc_some _ (cell_new _ _ _ _ _ (by simp) rfl)));rintro e w'' ⟨rfl,hb''⟩))
   go_ret
   first
    | exact ⟨rfl,below_alloc (below_alloc (below_alloc (below_alloc (Below.refl _ _) _) _) _) _⟩
    | exact ⟨rfl,below_then (below_alloc (below_alloc (below_alloc (below_alloc (Below.refl _ _) _) _) _) _) (by simp;omega) hb'⟩
    | exact ⟨rfl,below_then (below_then (below_alloc (below_alloc (below_alloc (below_alloc (Below.refl _ _) _) _) _) _) (by simp;omega) hb') (Nat.le_trans (by simp;omega) hb'.size) hb''⟩)
 ·rw [levelM,if_pos (.inr (by omega))]
  clear hr0 hok hc0 hr2 hl hc2
  generalize l0.length=n at h2 ⊢
  generalize l2.length=m
  go_enter Try.func32,Try.ntmps32
  go_wp2
  go_ret
  exact ⟨rfl,below_alloc (below_alloc (below_alloc (Below.refl _ _) _) _) _⟩
end Go.Proofs.Ytainbaehfdhmbaa.PX
set_option linter.unusedVariables false
set_option linter.unusedSimpArgs false
namespace Go.Proofs.Ytainbaehfdhmbaa
open Go.Lib
def ofL (L:List Str):List Str:=Lib.compact (L.mergeSort fun x y=>decide (x≤y))
theorem ofL_length_le (L:List Str):(ofL L).length≤L.length:=by
 have:=Lib.compact_length_le (L.mergeSort fun x y=>decide (x≤y))
 rw [List.length_mergeSort] at this
 exact this
theorem str_irrefl (x:Str):¬ x < x:=List.lt_irrefl x
theorem str_trans {x y z:Str} (h:x < y) (h':y < z):x < z:=List.lt_trans h h'
theorem str_le_lt {x y z:Str} (h:x≤y) (h':y < z):x < z:=List.lt_of_le_of_lt h h'
theorem str_le_trans {x y z:Str} (h:x≤y) (h':y≤z):x≤z:=List.le_trans h h'
theorem str_lt_of {x y:Str} (h:x≤y) (hne:x≠y):x < y:=List.not_le.1 fun h'=>hne (List.le_antisymm h h')
theorem str_le_total (x y:Str):x≤y∨y≤x:=List.le_total x y
theorem str_le_of_lt {x y:Str} (h:x < y):x≤y:=List.le_of_lt h
theorem compact_upTo (zs:List Str):∀ m,m≤zs.length→(∀ x,x ∈ compactUpTo zs.toArray m ↔ x ∈ zs.take m) ∧
  (zs.Pairwise (·≤ ·)→(compactUpTo zs.toArray m).Pairwise (·< ·)∧∀ x ∈ compactUpTo zs.toArray m,∀ j (hj:j < zs.length),m≤j+1→x≤zs[j])
 | 0,_=>by simp [compactUpTo]
 | m+1,hm=>by
  obtain ⟨h1,h2⟩:=compact_upTo zs m (by omega)
  have hmz:m < zs.length:=by omega
  have e1:zs.toArray[m]! = zs[m]:=by simp [hmz]
  have et:zs.take (m+1)=zs.take m ++ [zs[m]]:=List.take_succ_eq_append_getElem hmz
  rw [compactUpTo_succ,et]
  by_cases hk:keeps zs.toArray m=true
  ·rw [if_pos hk,e1]
   refine ⟨fun x=>by rw [List.mem_append,List.mem_append,h1 x],fun hs=>?_⟩
   obtain ⟨h3,h4⟩:=h2 hs
   have hlt:∀ x ∈ compactUpTo zs.toArray m,x < zs[m]:=by
    intro x hx
    unfold keeps at hk
    rw [decide_eq_true_eq] at hk
    rcases Nat.eq_zero_or_pos m with h0|h0
    ·subst h0
     simp [compactUpTo] at hx
    ·rcases hk with h0'|hk
     ·omega
     ·have e2:zs.toArray[m - 1]! = zs[m - 1]:=by simp [show m - 1 < zs.length by omega]
      rw [e1,e2] at hk
      have h5:zs[m - 1]≤zs[m]:=List.pairwise_iff_getElem.1 hs (m - 1) m (by omega) hmz (by omega)
      exact str_le_lt (h4 x hx (m - 1) (by omega) (by omega)) (str_lt_of h5 (fun e=>hk e.symm))
   refine ⟨List.pairwise_append.2 ⟨h3,List.pairwise_singleton _ _,fun x hx y hy=>?_⟩,fun x hx j hj hmj=>?_⟩
   ·obtain rfl:=List.mem_singleton.1 hy
    exact hlt x hx
   ·have hle:zs[m]≤zs[j]:=by
     rcases Nat.eq_or_lt_of_le (show m≤j by omega) with e|hlt'
     ·subst e
      exact List.le_refl _
     ·exact List.pairwise_iff_getElem.1 hs m j hmz hj hlt'
    rcases List.mem_append.1 hx with hx|hx
    ·exact str_le_trans (str_le_of_lt (hlt x hx)) hle
    ·obtain rfl:=List.mem_singleton.1 hx
     exact hle
  ·rw [if_neg hk,List.append_nil]
   unfold keeps at hk
   simp only [decide_eq_true_eq,not_or,Decidable.not_not] at hk
   obtain ⟨hm0,hk⟩:=hk
   have e2:zs.toArray[m - 1]! = zs[m - 1]:=by simp [show m - 1 < zs.length by omega]
   rw [e1,e2] at hk
   refine ⟨fun x=>?_,fun hs=>?_⟩
   ·rw [h1 x,List.mem_append,List.mem_singleton]
    refine ⟨.inl,fun h=>?_⟩
    rcases h with h|rfl
    ·exact h
    ·rw [hk]
     exact List.mem_take_iff_getElem.2 ⟨m - 1,by omega,rfl⟩
   ·obtain ⟨h3,h4⟩:=h2 hs
    exact ⟨h3,fun x hx j hj hmj=>h4 x hx j hj (by omega)⟩
theorem ofL_mem {L:List Str} {x:Str} : x ∈ ofL L ↔ x ∈ L:=by
 unfold ofL compact
 rw [(compact_upTo _ _ (Nat.le_refl _)).1 x,List.take_length]
 exact List.mem_mergeSort
theorem ofL_sorted (L:List Str):(ofL L).Pairwise (·< ·):=by
 unfold ofL compact
 refine ((compact_upTo _ _ (Nat.le_refl _)).2 ?_).1
 have:=List.pairwise_mergeSort (le:=fun x y:Str=>decide (x≤y)) (fun a b c h h'=>by
  rw [decide_eq_true_eq] at *
  exact str_le_trans h h') (fun a b=>by
  rcases str_le_total a b with h|h <;> simp [h]) L
 exact this.imp fun h=>by simpa using h
theorem sorted_ext:∀ {X Y:List Str},X.Pairwise (·< ·)→Y.Pairwise (·< ·)→(∀ s,s ∈ X ↔ s ∈ Y)→X=Y
 | [],[],_,_,_=>rfl
 | [],y :: Y,_,_,h=>by have:=(h y).2 (List.mem_cons_self ..);cases this
 | x :: X,[],_,_,h=>by have:=(h x).1 (List.mem_cons_self ..);cases this
 | x :: X,y :: Y,hx,hy,h=>by
  obtain ⟨x1,x2⟩:=List.pairwise_cons.1 hx
  obtain ⟨y1,y2⟩:=List.pairwise_cons.1 hy
  have e:x=y:=by
   rcases List.mem_cons.1 ((h x).1 (List.mem_cons_self ..)) with e|h1
   ·exact e
   ·rcases List.mem_cons.1 ((h y).2 (List.mem_cons_self ..)) with e|h2
    ·exact e.symm
    ·exact absurd (str_trans (y1 x h1) (x1 y h2)) (str_irrefl _)
  subst e
  congr 1
  refine sorted_ext x2 y2 fun s=>⟨fun hs=>?_,fun hs=>?_⟩
  ·rcases List.mem_cons.1 ((h s).1 (List.mem_cons_of_mem _ hs)) with e|h1
   ·subst e;exact absurd (x1 s hs) (str_irrefl _)
   ·exact h1
  ·rcases List.mem_cons.1 ((h s).2 (List.mem_cons_of_mem _ hs)) with e|h1
   ·subst e;exact absurd (y1 s hs) (str_irrefl _)
   ·exact h1
end Go.Proofs.Ytainbaehfdhmbaa
set_option linter.unusedVariables false
set_option linter.unusedSimpArgs false
namespace Go.Proofs.Ytainbaehfdhmbaa
open Go.RowKit
def Row (w : World) (g : Nat) (t : TypeId) (xs : List Value) : Prop := w.heap[g]? = some (.cells xs.toArray t (0, 0))
section
variable {w w' : World} {g : Nat} {t : TypeId} {xs : List Value}
theorem Row.lt (h : Row w g t xs) : g < w.heap.size := (Array.getElem?_eq_some_iff.1 h).1
theorem Row.cell (h : Row w g t xs) (i : Nat) : w.cell? ⟨g, i, none⟩ = xs[i]? := by
  rw [cell_of_row w g i xs.toArray t (0, 0) h]; simp
end
def Own (w : World) (B : Nat) (e : TypeId) (k : Nat) (A : Option Addr) (n c : Nat) (xs : List Value) : Prop :=
  xs.length = n * k ∧ ((A = none ∧ n = 0 ∧ c = 0) ∨ ∃ g rest, A = some ⟨g, 0, none⟩ ∧ B ≤ g ∧ Row w g e (xs ++ rest) ∧ n ≤ c ∧ c ≤ maxLen ∧ (xs ++ rest).length = c * k)
def blkOf : Option Addr → Option Nat
  | some a => some a.block
  | none => none
section
variable {w w' : World} {B B' : Nat} {e : TypeId} {k : Nat} {A : Option Addr} {n c : Nat} {xs : List Value}
theorem Own.len (h : Own w B e k A n c xs) : xs.length = n * k := h.1
theorem Own.blk (h : Own w B e k A n c xs) : ∀ g, blkOf A = some g → B ≤ g ∧ g < w.heap.size := by
  intro g hg
  rcases h.2 with ⟨rfl, _⟩ | ⟨g', rest, rfl, hb, hr, _⟩
  · cases hg
  · injection hg with hg
    subst hg
    exact ⟨hb, hr.lt⟩
end
theorem only_refl (w : World) (g : Option Nat) : w.grownBy w g := ⟨rfl, rfl, rfl, Nat.le_refl _, fun _ _ _ => rfl⟩
end Go.Proofs.Ytainbaehfdhmbaa
set_option linter.unusedVariables false
set_option linter.unusedSimpArgs false
namespace Go.Proofs.Ytainbaehfdhmbaa
open Go.RowKit Go.Sort
theorem own_of_ownsRow {w : World} {B : Nat} {e : TypeId} {k n : Nat} {v : Value} {xs : List Value} (h : w.ownsRow B e k v n xs) : ∃ A c, v = .slice A n c ∧ Own w B e k A n c xs := by
  rcases h.2 with ⟨rfl, rfl⟩ | ⟨g, cap, cur, rfl, hb, hg, hn, hm, hs, ht⟩
  · exact ⟨none, 0, rfl, h.1, .inl ⟨rfl, rfl, rfl⟩⟩
  · refine ⟨_, cap, rfl, h.1, .inr ⟨g, cur.toList.drop (n * k), rfl, hb, ?_, hn, hm, ?_⟩⟩
    · unfold Row
      rw [← ht, List.take_append_drop]
      simpa using hg
    · rw [← ht, List.take_append_drop]
      simpa using hs
theorem ownsRow_of_own {w : World} {B : Nat} {e : TypeId} {k n c : Nat} {A : Option Addr} {xs : List Value} (h : Own w B e k A n c xs) : w.ownsRow B e k (.slice A n c) n xs := by
  refine ⟨h.1, ?_⟩
  rcases h.2 with ⟨rfl, rfl, rfl⟩ | ⟨g, rest, rfl, hb, hr, hn, hm, hl⟩
  · exact .inl ⟨rfl, rfl⟩
  · refine .inr ⟨g, c, _, rfl, hb, hr, hn, hm, by simpa using hl, ?_⟩
    rw [← h.1]
    simp
theorem sort_own (B : Nat) (A : Option Addr) (n c : Nat) (L : List Str) (w : World) (ho : Own w B 9 1 A n c (L.map encStr)) (hl : n ≤ 1000000000000) :
    Calls Try.prog 48 #[.slice A n c] w fun e w' => e = .returned (.tuple #[]) ∧ Own w' B 9 1 A n c ((L.mergeSort fun x y => decide (x ≤ y)).map encStr) ∧ w.grownBy w' (blkOf A) := by
  have hn : L.length = n := by simpa using ho.1
  rcases ho.2 with ⟨rfl, rfl, rfl⟩ | ⟨g, rest, rfl, hb, hr, h1, h2, h3⟩
  · refine (Try.slices_Sort_string_none none 0 w).mono fun e w' ⟨he, hw⟩ => ?_
    subst hw
    have : L = [] := List.eq_nil_of_length_eq_zero hn
    subst this
    exact ⟨he, by simpa using ho, only_refl _ _⟩
  · obtain ⟨g', cap, hv, hbg, hgl, hnc, hcm, hlen, hH⟩ := Lib.holds_of_ownsRow (enc := encStr) (zs := L) (ownsRow_of_own ho) (by intro h; cases h)
    cases hv
    subst hn
    refine (Try.slices_Sort_string g 0 c L w hH hgl (by omega)).mono fun e w' ⟨he, nn, os, hw⟩ => ?_
    subst hw
    have hs := ownsRow_sorted (n := nn) (os := os) (ts := L.mergeSort fun x y => decide (x ≤ y)) (ss := L) (List.length_mergeSort L) hb hr h1 h2 (by simpa using h3)
    obtain ⟨A', c', e1, ho'⟩ := own_of_ownsRow hs
    cases e1
    exact ⟨he, ho', grownBy_sorted _⟩
theorem compact_own (B : Nat) (A : Option Addr) (n c : Nat) (L : List Str) (w : World) (ho : Own w B 9 1 A n c (L.map encStr)) (hl : n ≤ 1000000000000) :
    Calls Try.prog 49 #[.slice A n c] w fun e w' => ∃ n', e = .returned (.slice A n' c) ∧ Own w' B 9 1 A n' c ((Lib.compact L).map encStr) ∧ n' ≤ n ∧ w.grownBy w' (blkOf A) := by
  have hn : L.length = n := by simpa using ho.1
  rcases ho.2 with ⟨rfl, rfl, rfl⟩ | ⟨g, rest, rfl, hb, hr, h1, h2, h3⟩
  · refine (Try.slices_Compact_string_empty none 0 w).mono fun e w' ⟨he, hw⟩ => ?_
    subst hw
    have : L = [] := List.eq_nil_of_length_eq_zero hn
    subst this
    exact ⟨0, he, by simpa [Lib.compact, Lib.compactUpTo] using ho, Nat.le_refl _, only_refl _ _⟩
  · obtain ⟨g', cap, hv, hbg, hgl, hnc, hcm, hlen, hH⟩ := Lib.holds_of_ownsRow (enc := encStr) (zs := L) (ownsRow_of_own ho) (by intro h; cases h)
    cases hv
    subst hn
    have hle := Lib.compact_length_le L
    refine (Try.slices_Compact_string g 0 c L w hH (by omega) h1).mono fun e w' ⟨he, q, hw⟩ => ?_
    subst hw
    have hc := Lib.ownsRow_putRow (q := q) (k := (Lib.compact L).length) (ys := Lib.compact L ++ List.replicate (L.length - (Lib.compact L).length) []) (ownsRow_of_own ho) (by simp; omega) (by omega)
    rw [List.take_left] at hc
    obtain ⟨A', c', e1, ho'⟩ := own_of_ownsRow hc
    cases e1
    exact ⟨_, he, ho', hle, by have := grownBy_sorted (w := w) (g := g) (n := q) (os := #[]) (Lib.compact L ++ List.replicate (L.length - (Lib.compact L).length) []).toArray; rw [grow_empty] at this; exact this⟩
end Go.Proofs.Ytainbaehfdhmbaa
set_option linter.unusedVariables false
namespace Go.Proofs.Ytainbaehfdhmbaa.PX
open Go.RowKit Go.Proofs.YtainbaehfdhmbaaW.PrintWords Go.Proofs.YtainbaehfdhmbaaW.PrintLast Go.Proofs.YtainbaehfdhmbaaW.PrintMore Go.Proofs.Ytainbaehfdhmbaa
theorem map_ba (L:List Str):(L.map ba).map Value.string=L.map encStr:=by simp [ba]
theorem encs_enc (l:List ByteArray):encs Value.string l=(l.map tl).map encStr:=by
 rw [← map_ba,map_ba_tl];rfl
theorem enc_encs (l:List Str):l.map encStr=encs Value.string (l.map ba):=(map_ba l).symm
def sortB (l:List ByteArray):List ByteArray:=((l.map tl).mergeSort fun x y=>decide (x≤y)).map ba
def compactB (l:List ByteArray):List ByteArray:=(Lib.compact (l.map tl)).map ba
theorem R_of_Own {w:World} {B:Nat} {A:Option Addr} {n c:Nat} {L:List Str} {ok:Nat→Prop} (h:Own w B 9 1 A n c (L.map encStr)) (hok:∀ k,(Value.slice A n c).ownBlock=some k→ok k):Kd.R Kd.string 9 w B ok (.slice A n c) (L.map ba):=by
 have hn:L.length=n:=by simpa using h.1
 refine Kd.R_of_own ?_ hok
 have:=ownsRow_of_own h
 rw [enc_encs] at this
 rw [List.length_map,hn]
 exact this
theorem Own_of_R {w:World} {B:Nat} {A:Option Addr} {n c:Nat} {l:List ByteArray} {ok:Nat→Prop} (h:Kd.R Kd.string 9 w B ok (.slice A n c) l):n=l.length∧Own w B 9 1 A l.length c ((l.map tl).map encStr):=by
 have hn:=(Kd.R_reads' h).1
 subst hn
 have ho:=Kd.own_of_R h
 rw [encs_enc] at ho
 obtain ⟨A',c',e1,ho'⟩:=own_of_ownsRow ho
 cases e1
 exact ⟨rfl,ho'⟩
theorem blk_own {A:Option Addr} {n c:Nat} {w:World} {B:Nat} {e:TypeId} {k:Nat} {xs:List Value} (h:Own w B e k A n c xs):blkOf A=(Value.slice A n c).ownBlock:=by
 rcases h.2 with ⟨rfl,_⟩|⟨g,rest,rfl,_⟩ <;> rfl
def slices_Sort_string_string.f (l0:List ByteArray):Option (List ByteArray):=if l0.length≤1000000000000 then some (sortB l0) else none
theorem slices_Sort_string_string.calls (P0_:Nat→Prop) (u9000_:Value) (l0:List ByteArray) (r:List ByteArray) (w0 w:World) (hB:Below w0.heap.size w0 w) (ho0:Kd.R Kd.string 9 w w0.heap.size P0_ u9000_ l0) (h:slices_Sort_string_string.f l0=some r) :
  Calls Try.prog 48 #[u9000_] w fun e w'=>e=.returned (.tuple #[])∧Kd.R Kd.string 9 w' w0.heap.size (fun k_=>(P0_ k_∨w.heap.size≤k_)) u9000_ r∧Below w0.heap.size w0 w'∧Kept w w' (fun k_=>P0_ k_):=by
 unfold slices_Sort_string_string.f at h
 split at h
 ·rename_i hl
  injection h with h
  subst h
  obtain ⟨A,c,rfl⟩:=Kd.R_slice ho0
  obtain ⟨_,ho⟩:=Own_of_R ho0
  have hblk:=blk_own ho
  have hbase:∀ k,blkOf A=some k→w0.heap.size≤k:=fun k hk=>(ho.blk k hk).1
  refine (sort_own _ A l0.length c (l0.map tl) w ho hl).mono fun e w' ⟨he,ho2,hg⟩=>⟨he,?_,pw_below_grown hB (blkOf A) hB.size hg hbase,Kept.of_grown hg (Kept.refl w _) (fun k hk=>.inl (ho0.1 k (hblk ▸ hk)))⟩
  exact R_of_Own ho2 (fun k hk=>.inl (ho0.1 k hk))
 ·cases h
def slices_Compact_string_string.f (l0:List ByteArray):Option (List ByteArray):=if l0.length≤1000000000000 then some (compactB l0) else none
theorem slices_Compact_string_string.calls (P0_:Nat→Prop) (u9000_:Value) (l0:List ByteArray) (r:List ByteArray) (w0 w:World) (hB:Below w0.heap.size w0 w) (ho0:Kd.R Kd.string 9 w w0.heap.size P0_ u9000_ l0) (h:slices_Compact_string_string.f l0=some r) :
  Calls Try.prog 49 #[u9000_] w fun e w'=>∃ v0_:Value,e=.returned (v0_)∧Kd.R Kd.string 9 w' w0.heap.size (fun k_=>(P0_ k_∨w.heap.size≤k_)) v0_ r∧Below w0.heap.size w0 w'∧Kept w w' (fun k_=>P0_ k_):=by
 unfold slices_Compact_string_string.f at h
 split at h
 ·rename_i hl
  injection h with h
  subst h
  obtain ⟨A,c,rfl⟩:=Kd.R_slice ho0
  obtain ⟨_,ho⟩:=Own_of_R ho0
  have hblk:=blk_own ho
  have hbase:∀ k,blkOf A=some k→w0.heap.size≤k:=fun k hk=>(ho.blk k hk).1
  refine (compact_own _ A l0.length c (l0.map tl) w ho hl).mono fun e w' ⟨n',he,ho2,hn2,hg⟩=>⟨_,he,?_,pw_below_grown hB (blkOf A) hB.size hg hbase,Kept.of_grown hg (Kept.refl w _) (fun k hk=>.inl (ho0.1 k (hblk ▸ hk)))⟩
  exact R_of_Own ho2 (fun k hk=>.inl (ho0.1 k (by rw [← hk,← blk_own ho2,hblk])))
 ·cases h
end Go.Proofs.Ytainbaehfdhmbaa.PX
namespace Go.Proofs.Ytainbaehfdhmbaa.PX
open Go.RowKit Go.Proofs.YtainbaehfdhmbaaW.PrintWords Go.Proofs.YtainbaehfdhmbaaW.PrintLast Go.Proofs.YtainbaehfdhmbaaW.PrintMore
attribute [local go_sem] max2_int min2_int max_two min_two max_three min_three max_four min_four   
set_option linter.unusedVariables false
set_option linter.unusedSimpArgs false
mutual
def tree_own.l0:Nat→List (S51)→List (S51)→Int→Int→Option ((List (S51)))
 | 0,_,_,_,_=>none
 | k+1,x3,x9,x10,x11=>if x11 < x10 then (if 0≤x11 then (if x11 < (x9.length:Int) then ((tree_own.f k ((rd_T51 x9 x11).f1)).bind fun t555=>(if x11 < (x3.length:Int) then (tree_own.l0 k (x3.set (x11:Int).toNat (⟨(rd_T51 x9 x11).f0,t555⟩:S51)) x9 x10 (wrap64 (x11+1))) else (none))) else (none)) else (none)) else (some x3)
def tree_own.f:Nat→List (S51)→Option ((List (S51)))
 | 0,_=>none
 | k+1,l0=>if 0≤(l0.length:Int) then (if ((l0.length:Int):Int).toNat≤7036874417766 then (tree_own.l0 k (List.replicate ((l0.length:Int):Int).toNat z51) l0 (l0.length:Int) 0) else (none)) else (none)
end
theorem tree_own.mono_l:∀ k,(∀ y0,LeO (tree_own.f k y0) (tree_own.f (k+1) y0))∧(∀ y0 y1 y2 y3,LeO (tree_own.l0 k y0 y1 y2 y3) (tree_own.l0 (k+1) y0 y1 y2 y3))
 | 0=>⟨fun _ r h=>by simp [tree_own.f] at h,fun _ _ _ _ r h=>by simp [tree_own.l0] at h⟩
 | k+1=>by
  obtain ⟨ih0,ih1⟩:=tree_own.mono_l k
  refine ⟨?_,?_⟩
  ·intro y0
   unfold tree_own.f
   repeat' first
   | (with_reducible exact ih0 _)
   | (with_reducible exact ih1 _ _ _ _)
   | (with_reducible exact LeO.refl _)
   | (with_reducible exact LeO.none _)
   | (with_reducible refine LeO.ite ?_ ?_)
   | (with_reducible refine LeO.bind ?_ (fun _=>?_))
   | exact ih0 _
   | exact ih1 _ _ _ _
   | exact LeO.none _
   | refine LeO.ite ?_ ?_
   | refine LeO.bind ?_ (fun _=>?_)
  ·intro y0 y1 y2 y3
   unfold tree_own.l0
   repeat' first
   | (with_reducible exact ih0 _)
   | (with_reducible exact ih1 _ _ _ _)
   | (with_reducible exact LeO.refl _)
   | (with_reducible exact LeO.none _)
   | (with_reducible refine LeO.ite ?_ ?_)
   | (with_reducible refine LeO.bind ?_ (fun _=>?_))
   | exact ih0 _
   | exact ih1 _ _ _ _
   | exact LeO.none _
   | refine LeO.ite ?_ ?_
   | refine LeO.bind ?_ (fun _=>?_)
theorem tree_own.mono:∀ a0 k,LeO (tree_own.f k a0) (tree_own.f (k+1) a0):=by
 intro a0 k
 obtain ⟨ih0,ih1⟩:=tree_own.mono_l k
 exact ih0 a0
def tree_own.T5:Bool × List (List Nat × List Nat):=(true,[([],[]),([],[]),([],[]),([2],[2]),([],[]),([4],[4]),([5],[5]),([3,6],[3,6]),([0,1,0,1,2,3,4,5,6,7],[0,1]),([8,7,6,0,1,2,3,4,5,6,7],[7,8])])
def tree_own.B5:List Nat:=[0,0,0,4,0,16,48,124,255,511]
theorem tree_own.tab5:rtab .any (opsOf Try.f60 5)=tree_own.T5:=by kernel_rfl
theorem tree_own.bits5:waitsOk tree_own.T5.2 tree_own.B5=true:=by kernel_rfl
set_option maxHeartbeats 8000000 in
set_option maxRecDepth 100000 in
theorem tree_own.calls (k:Nat):∀ (A0:Option Addr) (c0:Nat) (l0:List (S51)) (r:List (S51)) (w:World) (hr0:Kd.C k51 w A0 l0.length l0) (hc0:l0.length≤c0) (h:tree_own.f k l0=some r),
  Calls Try.prog 60 #[.slice A0 l0.length c0] w fun e w'=>∃ v0_:Value,e=.returned (v0_)∧Kd.N k51 51 w' w.heap.size (fun k_=>(w.heap.size≤k_)) v0_ r∧Below w.heap.size w w':=by
 induction k using Nat.strongRecOn with
 | _ k ih =>
 intro A0 c0 l0 r w hr0 hc0 h
 cases k with
 | zero=>exact absurd h (by simp [tree_own.f])
 | succ k =>
 simp only [tree_own.f] at h
 have hu51:=Try.underlying51
 have HR0:=Aside0.mk hr0
 have HC0:=Aside0.mk hc0
 clear hr0 hc0
 have HB:=Aside0.mk (Below.refl w.heap.size w)
 have H:(if 0≤(l0.length:Int) then (if ((l0.length:Int):Int).toNat≤7036874417766 then (tree_own.l0 k (List.replicate ((l0.length:Int):Int).toNat z51) l0 (l0.length:Int) 0) else (none)) else (none))=some r:=h
 clear h
 by_cases c2:0≤(l0.length:Int)
 ·rw [if_pos c2] at H
  have c2b0:=eq_true c2
  have c2b1:decide (0≤(l0.length:Int))=true:=decide_eq_true c2
  clear c2
  by_cases c3:((l0.length:Int):Int).toNat≤7036874417766
  ·rw [if_pos c3] at H
   have c3b0:=eq_true c3
   have c3b1:decide (((l0.length:Int):Int).toNat≤7036874417766)=true:=decide_eq_true c3
   clear c3
   obtain ⟨y550,hy550⟩:∃ y_:List (S51),y_=(List.replicate ((l0.length:Int):Int).toNat z51):=⟨_,rfl⟩
   replace H:(tree_own.l0 k y550 l0 (l0.length:Int) 0)=some r:=by first|(rw [hy550];with_reducible exact H)|(have H2_:=(Option.bind_some _ _).symm.trans H;rw [hy550];with_reducible exact H2_)|(have H2_:=(Option.bind_some _ _).symm.trans H;with_reducible exact H2_)|with_reducible exact H|(rw [hy550];exact H)|exact H
   have Ny550:=Aside0.mk hy550
   clear hy550
   have H':=Aside0.mk H
   clear H
   go_enter Try.func60,Try.ntmps60
   go_wp2_with (first|((with_reducible refine gate_dst (N:=8) rfl ?_);refine Kd.N_make k51 _ 51 rfl (N':=8) rfl 24 _ _ rfl (l0.length:Int) rfl rfl Try.underlying24 (.agg #[(.string ⟨#[]⟩),(.slice none 0 0)]) 40 info51 rfl (by decide) (by omega) z51 (ok:=fun k_=>w.heap.size≤k_) (okp:=fun _=>False) (k51_mkF _ _ z51 (Nat.le_refl _) (Kd.F_nil _ _ _)) (fun _ hk=>hk.elim) (Nat.le_refl _) (of_decide_eq_true (by first|(with_reducible assumption)|assumption)) (Nat.le_trans (Nat.mul_le_mul_right _ (of_decide_eq_true (by first|(with_reducible assumption)|assumption):(l0.length:Int).toNat≤7036874417766)) (by omega)) (Below.refl _ _) (Nat.le_refl _) ?_;intro v551 w4 ho5 hb hg_ hnew_;clear hg_ hnew_;(first|rw [← Ny550.out] at ho5|(simp only [Int.reduceToNat] at ho5;rw [← Ny550.out] at ho5));have n0_:=Aside0.mk (Kd.N_lower (Kd.N_mono (ok':=fun k_=>(w.heap.size≤k_)) ho5 (fun k_ hk_=>(Nat.le_trans (below_size (by repeat (first|(with_reducible first|exact HB.out|apply bA_|apply bN_|apply bD_)|exact HB.out))) hk_))) (below_size (by repeat (first|(with_reducible first|exact HB.out|apply bA_|apply bN_|apply bD_)|exact HB.out))));have n1_:=Aside0.mk (below_step (by repeat (first|(with_reducible first|exact HB.out|apply bA_|apply bN_|apply bD_)|exact HB.out)) hb);clear HB;have HO552:=n0_;have HB:=n1_;clear n0_ n1_;clear hb ho5))
   go_loopg [11] k (fun kq v11 w'=>∃ (x3_1:List (S51)) (x11_1:Int),v11=.int .i64 x11_1∧Aside0 (tree_own.l0 kq x3_1 l0 (l0.length:Int) x11_1=some r)∧Aside0 (kq≤k)∧Aside0 (Kd.N k51 51 w' w.heap.size (fun k_=>(w.heap.size≤k_)) v551 x3_1)∧Aside0 (Below w.heap.size w w'))
   case atStart=>exact ⟨(y550),(0),(by first|rfl|(simp;done)|(simp [*];done)),H',⟨Nat.le_refl _⟩,⟨by (with_reducible repeat (first|apply nA_|apply nN_|apply nD_));exact HO552.out⟩,⟨by repeat (first|(with_reducible first|exact HB.out|apply bA_|apply bN_|apply bD_)|exact HB.out)⟩⟩
   case round =>
    clear H'
    try clear c2
    try clear c2b0
    try clear c2b1
    try clear p2
    try clear c3
    try clear c3b0
    try clear c3b1
    obtain ⟨x3_1,x11_1,rfl,HA,HK1,HO_3,HB⟩:=hrel
    cases gk with
    | zero=>exact absurd HA.out (by simp [tree_own.l0])
    | succ k1 =>
     have H:=HA.out
     clear HA
     simp only [tree_own.l0] at H
     by_cases c6:x11_1 < (l0.length:Int)
     ·rw [if_pos c6] at H
      have c6b0:decide (x11_1 < (l0.length:Int))=true:=decide_eq_true c6
      clear c6
      by_cases c7:0≤x11_1
      ·rw [if_pos c7] at H
       have c7b0:decide (0≤x11_1)=true:=decide_eq_true c7
       clear c7
       by_cases c8:x11_1 < (l0.length:Int)
       ·rw [if_pos c8] at H
        have c8b0:decide (x11_1 < (l0.length:Int))=true:=decide_eq_true c8
        clear c8
        replace H:=Option.bind_eq_some_iff.mp H
        obtain ⟨t555,A90,H⟩:=H
        replace H:(if x11_1 < (x3_1.length:Int) then (tree_own.l0 k1 (x3_1.set (x11_1:Int).toNat (⟨(rd_T51 l0 x11_1).f0,t555⟩:S51)) l0 (l0.length:Int) (wrap64 (x11_1+1))) else (none))=some r:=H
        have A9:=Aside0.mk A90
        clear A90
        by_cases c10:x11_1 < (x3_1.length:Int)
        ·rw [if_pos c10] at H
         have c10b0:decide (x11_1 < (x3_1.length:Int))=true:=decide_eq_true c10
         clear c10
         obtain ⟨y558,hy558⟩:∃ y_:List (S51),y_=(x3_1.set (x11_1:Int).toNat (⟨(rd_T51 l0 x11_1).f0,t555⟩:S51)):=⟨_,rfl⟩
         replace H:(tree_own.l0 k1 y558 l0 (l0.length:Int) (wrap64 (x11_1+1)))=some r:=by first|(rw [hy558];with_reducible exact H)|(have H2_:=(Option.bind_some _ _).symm.trans H;rw [hy558];with_reducible exact H2_)|(have H2_:=(Option.bind_some _ _).symm.trans H;with_reducible exact H2_)|with_reducible exact H|(rw [hy558];exact H)|exact H
         have Ny558:=Aside0.mk hy558
         clear hy558
         have H':=Aside0.mk H
         clear H
         have p553:0≤(x11_1:Int):=of_decide_eq_true (by first|(with_reducible assumption)|assumption)
         have q553:x11_1 < (l0.length:Int):=of_decide_eq_true (by first|(with_reducible assumption)|assumption)
         obtain ⟨ad553,A553_1,c553_1,e553,hx553_0,hx553_1,hl553_1,hi553_1⟩:=at_T51 HR0.out x11_1 p553 q553
         cases e553
         replace hx553_0:=(HB.out.cell (World.block_lt_of_cell? w _ hx553_0)).trans hx553_0
         replace hx553_1:=(HB.out.cell (World.block_lt_of_cell? w _ hx553_1)).trans hx553_1
         have HR553_1:=Aside0.mk hi553_1
         have HC553_1:=Aside0.mk hl553_1
         clear hi553_1 hl553_1
         replace p553:=eq_true p553
         replace q553:=eq_true q553
         try go_wp2_with (first|((with_reducible refine gate_dst (N:=5) rfl ?_);refine box_event ?hg (N:=5) ?hd (cs:=#[.string (⟨#[]⟩:ByteArray),.slice none 0 0]) (t:=51) ?hr ?_;(case hd=>rfl);(case hg=>rfl);(case hr=>first|(go_simp;done)|(go_simp;rfl));intro gb554 hg w12 hbox hb;have n0_:=Aside0.mk (Kd.N_below (Kd.N_elderB (by (with_reducible repeat (first|apply nA_|apply nN_|apply nD_));exact HO_3.out) gb554 (Nat.le_of_eq hg.symm)) hb);have n1_:=Aside0.mk (below_step (by repeat (first|(with_reducible first|exact HB.out|apply bA_|apply bN_|apply bD_)|exact HB.out)) hb);have n2_:=Aside0.mk (hbox);have n3_:=Aside0.mk ((by rw [hg];exact (below_size (by repeat (first|(with_reducible first|exact HB.out|apply bA_|apply bN_|apply bD_)|exact HB.out))):w.heap.size≤gb554));have n4_:=Aside0.mk ((by rw [hg];exact (below_size (by repeat (first|(with_reducible first|exact HB.out|apply bA_|apply bN_|apply bD_)|exact HB.out))):w.heap.size≤gb554));clear HO_3;clear HB;have HO_3:=n0_;have HB:=n1_;have BK554:=n2_;have GW554:=n3_;have GE554:=n4_;clear n0_ n1_ n2_ n3_ n4_;clear hb hbox hg;have hcz13_0:w12.cell? ⟨gb554,0,none⟩=some (.string (⟨#[]⟩:ByteArray)):=(blk_cell BK554.out 0).trans rfl;have hcz13_1:w12.cell? ⟨gb554,1,none⟩=some (.slice none 0 0):=(blk_cell BK554.out 1).trans rfl;have hfz13_0:=blk_frozen BK554.out 0;have hfz13_1:=blk_frozen BK554.out 1))
         have n0_:Aside0 (Kd.N k51 51 ((w12.setCell ⟨gb554,0,none⟩ (.string ((rd_T51 l0 x11_1).f0))).setCell ⟨gb554,1,none⟩ (.slice A553_1 ((rd_T51 l0 x11_1).f1).length c553_1)) w.heap.size (fun k_=>(w.heap.size≤k_)∧k_≠gb554) v551 x3_1):=⟨by (with_reducible repeat (first|apply nA_|apply nN_|apply nD_));exact Kd.N_mono (Kd.N_far (p:=⟨gb554,1,none⟩) (Kd.N_far (p:=⟨gb554,0,none⟩) (Kd.N_mono HO_3.out (fun k_ hk=>(⟨hk,hk.2⟩:_∧k_≠gb554))) (fun _ hk=>hk.2) (.string ((rd_T51 l0 x11_1).f0))) (fun _ hk=>hk.2) (.slice A553_1 ((rd_T51 l0 x11_1).f1).length c553_1)) (fun _ hk=>⟨hk.1.1,hk.1.2⟩)⟩
         have n1_:Aside0 (((w12.setCell ⟨gb554,0,none⟩ (.string ((rd_T51 l0 x11_1).f0))).setCell ⟨gb554,1,none⟩ (.slice A553_1 ((rd_T51 l0 x11_1).f1).length c553_1)).heap[gb554]? = some (.cells #[.string ((rd_T51 l0 x11_1).f0),.slice A553_1 ((rd_T51 l0 x11_1).f1).length c553_1] 51 (0,0))):=⟨by (with_reducible repeat (first|refine blk_drewN ?_ _|refine blk_drew ?_|refine blk_alloc ?_ _));refine blk_put (cs:=#[.string ((rd_T51 l0 x11_1).f0),.slice none 0 0]) ?_ 1 _ rfl;(with_reducible repeat (first|refine blk_drewN ?_ _|refine blk_drew ?_|refine blk_alloc ?_ _));refine blk_put (cs:=#[.string (⟨#[]⟩:ByteArray),.slice none 0 0]) ?_ 0 _ rfl;(with_reducible repeat (first|refine blk_drewN ?_ _|refine blk_drew ?_|refine blk_alloc ?_ _));exact BK554.out⟩
         have n2_:Aside0 (Below w.heap.size w ((w12.setCell ⟨gb554,0,none⟩ (.string ((rd_T51 l0 x11_1).f0))).setCell ⟨gb554,1,none⟩ (.slice A553_1 ((rd_T51 l0 x11_1).f1).length c553_1))):=⟨by repeat (first|(with_reducible first|exact HB.out|apply bA_|apply bN_|apply bD_|refine below_set ?_ GE554.out)|exact HB.out)⟩
         (try clear HO_3)
         (try clear BK554)
         (try clear HB)
         generalize ((w12.setCell ⟨gb554,0,none⟩ (.string ((rd_T51 l0 x11_1).f0))).setCell ⟨gb554,1,none⟩ (.slice A553_1 ((rd_T51 l0 x11_1).f1).length c553_1))=w14 at n0_ n1_ n2_ ⊢
         have HO_3:=n0_
         have BK554:=n1_
         have HB:=n2_
         clear n0_ n1_ n2_
         have n0_:=Aside0.mk (nD_ HO_3.out)
         have n1_:=Aside0.mk (blk_drew BK554.out)
         have n2_:=Aside0.mk (bD_ HB.out)
         clear HO_3
         clear BK554
         clear HB
         have HO_3:=n0_
         have BK554:=n1_
         have HB:=n2_
         clear n0_ n1_ n2_
         refine start_ (n:=10) (S:=fun w'=>w'.cell? ⟨gb554,0,none⟩=some (.string ((rd_T51 l0 x11_1).f0))∧w'.cell? ⟨gb554,1,none⟩=some (.slice A553_1 ((rd_T51 l0 x11_1).f1).length c553_1)) (ds:=[9]) #[false,false,false,false,false,false,false,false,false,false] (by kernel_rfl) rfl rfl ⟨(blk_cell BK554.out 0).trans rfl,(blk_cell BK554.out 1).trans rfl⟩ (fun hHeld=>?_);refine with_tabW tree_own.tab5 tree_own.bits5 (fun HT_ HW_=>?_)
         generalize w14.drew=w15 at HO_3 BK554 HB hHeld ⊢
         refine pure_ (i:=0) (N:=some 16) (v:=?_) (a':=?_) #[true,false,false,false,false,false,false,false,false,false] rfl rfl (any_of HT_.out (by kernel_rfl)) (fun _ _ _ h=>h) (Or.inl ⟨by rfl,?_⟩) ?_ ?_
         rotate_left
         ·intro w'
          go_simp
          with_reducible rfl
         rotate_left
         ·simp only [Act.put,List.setIfInBounds_toArray,List.set_cons_zero,List.set_cons_succ,i64_w,i32_w]
          rfl
         refine pure_ (i:=1) (N:=some 17) (v:=?_) (a':=?_) #[true,true,false,false,false,false,false,false,false,false] rfl rfl (any_of HT_.out (by kernel_rfl)) (fun _ _ _ h=>h) (Or.inl ⟨by rfl,?_⟩) ?_ ?_
         rotate_left
         ·intro w'
          go_simp
          with_reducible rfl
         rotate_left
         ·simp only [Act.put,List.setIfInBounds_toArray,List.set_cons_zero,List.set_cons_succ,i64_w,i32_w]
          rfl
         refine pure_ (i:=2) (N:=some 18) (v:=?_) (a':=?_) #[true,true,true,false,false,false,false,false,false,false] rfl rfl (any_of HT_.out (by kernel_rfl)) (fun _ _ _ h=>h) (Or.inl ⟨by rfl,?_⟩) ?_ ?_
         rotate_left
         ·intro w'
          go_simp
          with_reducible rfl
         rotate_left
         ·simp only [Act.put,List.setIfInBounds_toArray,List.set_cons_zero,List.set_cons_succ,i64_w,i32_w]
          rfl
         refine pure_ (i:=4) (N:=some 20) (v:=?_) (a':=?_) #[true,true,true,false,true,false,false,false,false,false] rfl rfl (any_of HT_.out (by kernel_rfl)) (fun _ _ _ h=>h) (Or.inl ⟨by rfl,?_⟩) ?_ ?_
         rotate_left
         ·intro w'
          go_simp
          with_reducible rfl
         rotate_left
         ·simp only [Act.put,List.setIfInBounds_toArray,List.set_cons_zero,List.set_cons_succ,i64_w,i32_w]
          rfl
         refine take_ (i:=3) (N:=some 19) (v:=?_) (a':=?_) #[true,true,true,true,true,false,false,false,false,false] rfl rfl (take_ofW HT_.out HW_.out (by kernel_rfl)) (fun _ _ _ h=>h) (Or.inl ⟨by rfl,?_⟩) hHeld ?_ ?_
         rotate_left
         ·rintro w' ⟨s0,s1⟩
          go_simp
          with_reducible rfl
         rotate_left
         ·simp only [Act.put,List.setIfInBounds_toArray,List.set_cons_zero,List.set_cons_succ,i64_w,i32_w]
          rfl
         refine take_ (i:=5) (N:=some 21) (v:=?_) (a':=?_) #[true,true,true,true,true,true,false,false,false,false] rfl rfl (take_ofW HT_.out HW_.out (by kernel_rfl)) (fun _ _ _ h=>h) (Or.inl ⟨by rfl,?_⟩) hHeld ?_ ?_
         rotate_left
         ·rintro w' ⟨s0,s1⟩
          go_simp
          with_reducible rfl
         rotate_left
         ·simp only [Act.put,List.setIfInBounds_toArray,List.set_cons_zero,List.set_cons_succ,i64_w,i32_w]
          rfl
         refine one_ (i:=6) (N:=some 22) #[true,true,true,true,true,true,true,false,false,false] rfl rfl (one_of HT_.out (by kernel_rfl)) (by decide) (fun K hK=>?_)
         refine goes_ Try.func60 (by kernel_rfl) rfl #[.slice A553_1 ((rd_T51 l0 x11_1).f1).length c553_1] (by rfl) rfl rfl (by (try simp only [List.map_toArray,List.map_cons,List.map_nil]);first|done|rfl|(simp only [List.length_drop,List.length_take];rfl)) ?_
         with_reducible refine (ih k1 (by have:=HK1.out;omega) _ _ ((rd_T51 l0 x11_1).f1) t555 _ ?side1 ?side2 A9.out).mono ?_
         (case side1=>repeat (first|exact (Kd.C_below HR553_1.out HB.out)|(with_reducible refine cA_ ?_ _)|(with_reducible refine cN_ ?_ _)|(with_reducible refine cD_ ?_)))
         (case side2=>exact HC553_1.out)
         rintro e w16 ⟨v556,rfl,ho0,hb⟩
         refine ⟨_,rfl,?_⟩
         have n0_:=Aside0.mk (Kd.N_elder' (by (with_reducible repeat (first|apply nA_|apply nN_|apply nD_));exact HO_3.out) (Kd.N_base ho0) hb)
         have n1_:=Aside0.mk (Kd.N_lower (Kd.N_mono (ok':=fun k_=>(w.heap.size≤k_)∧some k_≠(v551:Value).ownBlock∧k_≠gb554) ho0 (fun k_ hk_=>⟨(Nat.le_trans (below_size (by repeat (first|(with_reducible first|exact HB.out|apply bA_|apply bN_|apply bD_|refine below_set ?_ GE554.out)|exact HB.out))) hk_),(Kd.fresh' (Kd.N_lt (by (with_reducible repeat (first|apply nA_|apply nN_|apply nD_));exact HO_3.out)) k_ hk_),(Kd.freshB (g:=gb554) (o:=.cells #[.string ((rd_T51 l0 x11_1).f0),.slice A553_1 ((rd_T51 l0 x11_1).f1).length c553_1] 51 (0,0)) (by (with_reducible repeat (first|refine blk_drewN ?_ _|refine blk_drew ?_|refine blk_alloc ?_ _));exact BK554.out) k_ hk_)⟩)) (below_size (by repeat (first|(with_reducible first|exact HB.out|apply bA_|apply bN_|apply bD_|refine below_set ?_ GE554.out)|exact HB.out))))
         have n2_:=Aside0.mk (blk_below (g:=gb554) (o:=.cells #[.string ((rd_T51 l0 x11_1).f0),.slice A553_1 ((rd_T51 l0 x11_1).f1).length c553_1] 51 (0,0)) (by (with_reducible repeat (first|refine blk_drewN ?_ _|refine blk_drew ?_|refine blk_alloc ?_ _));exact BK554.out) hb)
         have n3_:=Aside0.mk (below_step (by repeat (first|(with_reducible first|exact HB.out|apply bA_|apply bN_|apply bD_|refine below_set ?_ GE554.out)|exact HB.out)) hb)
         clear HO_3
         clear BK554
         clear HB
         have HO_3:=n0_
         have HO557:=n1_
         have BK554:=n2_
         have HB:=n3_
         clear n0_ n1_ n2_ n3_
         (try clear hb)
         (try clear hb2)
         (try clear hk)
         (try clear hi)
         (try clear ho0)
         obtain ⟨Ao17,co17,eo17⟩:=Kd.N_slice HO557.out
         (first|subst eo17|(injection eo17 with f1_ f2_ f3_;have f4_:=f1_.symm;have f5_:=f3_.symm;clear f1_ f2_ f3_;subst f4_;subst f5_))
         have p11:0≤(x11_1:Int):=of_decide_eq_true (by first|(with_reducible assumption)|assumption)
         have q11:(x11_1:Int) < ((x3_1.length:Int):Int):=of_decide_eq_true (by first|(with_reducible assumption)|assumption)
         obtain ⟨go11,co11,eo11,gb11,gl11,cl11,HG11⟩:=Kd.N_form HO_3.out (by omega)
         (first|cases eo11|(injection eo11 with ea_ en_ ec_;(first|subst ea_|(injection ea_ with ea_;subst ea_));subst ec_;clear en_))
         have GB11:=Aside0.mk gb11
         have GG11:=Aside0.mk HG11
         clear gb11 gl11 HG11
         obtain ⟨ce11,hcl11,hM11,hcc11,hfr11⟩:=Kd.N_elem HO_3.out z51 (x11_1:Int) p11 q11
         obtain ⟨ua11_1,uc11_1,rfl,ul11_1,ge11_1⟩:=k51_openF hM11
         have hx11_0:World.cell? _ ⟨go11,(x11_1:Int).toNat * 2,none⟩=some (.string ((rd_T51 x3_1 x11_1).f0)):=hcc11 0 _ rfl
         have hx11_1:World.cell? _ ⟨go11,(x11_1:Int).toNat * 2+1,none⟩=some (.slice ua11_1 ((rd_T51 x3_1 x11_1).f1).length uc11_1):=hcc11 1 _ rfl
         have hf11_0:World.frozen? _ ⟨go11,(x11_1:Int).toNat * 2,none⟩=false:=hfr11 0
         have hf11_1:World.frozen? _ ⟨go11,(x11_1:Int).toNat * 2+1,none⟩=false:=hfr11 1
         clear hcl11 hcc11 hfr11 hM11
         replace p11:=eq_true p11
         replace q11:=eq_true q11
         have HX18:=Aside0.mk (show Kd.N k51 51 _ w.heap.size (fun k_=>(w.heap.size≤k_)∧some k_≠(.slice Ao17 t555.length co17:Value).ownBlock∧k_≠gb554) (.slice (some ⟨go11,0,none⟩) x3_1.length co11) x3_1 from (Kd.N_mono (HO_3.out) (fun k_ hk=>⟨hk.1.1,⟨hk.2,hk.1.2⟩⟩)))
         replace HX18:=Aside0.mk (show Kd.N k51 51 _ w.heap.size (fun k_=>(w.heap.size≤k_)∧k_≠gb554) (.slice (some ⟨go11,0,none⟩) x3_1.length co11) x3_1 from Kd.N_mono HX18.out (fun k_ hk=>⟨hk.1,hk.2.2⟩))
         obtain ⟨ce18,hcl18,hM18,hcc18,hfr18⟩:=Kd.N_elem HX18.out z51 (x11_1:Int) (of_decide_eq_true (by first|(with_reducible assumption)|assumption)) (by have h_:(x11_1:Int) < ((x3_1.length:Int):Int):=of_decide_eq_true (by first|(with_reducible assumption)|assumption);first|exact h_|(have e_:=(Kd.N_reads' HO_3.out).1;omega)|simpa using h_)
         obtain ⟨ua18_1,uc18_1,rfl,ul18_1,ge18_1⟩:=k51_openF hM18
         have HP18:=(Kd.N_seg HX18.out (x11_1:Int) (of_decide_eq_true (by first|(with_reducible assumption)|assumption)) (by have h_:(x11_1:Int) < ((x3_1.length:Int):Int):=of_decide_eq_true (by first|(with_reducible assumption)|assumption);first|exact h_|(have e_:=(Kd.N_reads' HO_3.out).1;omega)|simpa using h_) (seg:=[.string ((rd_T51 l0 x11_1).f0),.slice Ao17 t555.length co17]) (j:=0) hcl18 hcc18 (show 2≤2 from by decide) (x':=(⟨(rd_T51 l0 x11_1).f0,t555⟩:S51)) (k51_mkF _ _ (⟨(rd_T51 l0 x11_1).f0,t555⟩:S51) (Kd.N_reads' (Kd.N_mono (ok':=(fun k_=>((fun k_=>(w.heap.size≤k_)∧k_≠gb554)) k_∧k_≠go11)) (HO557.out) (fun k_ hk=>⟨⟨hk.1,hk.2.2⟩,fun e_=>(hk.2.1) (by rw [e_];rfl)⟩))).2.1 (Kd.N_F (Kd.N_mono (ok':=(fun k_=>((fun k_=>(w.heap.size≤k_)∧k_≠gb554)) k_∧k_≠go11)) (HO557.out) (fun k_ hk=>⟨⟨hk.1,hk.2.2⟩,fun e_=>(hk.2.1) (by rw [e_];rfl)⟩)))) (fun _ hk=>hk)).1
         rw [← Ny558.out] at HP18
         have HQ18:=Aside0.mk HP18
         clear hcl18 hcc18 hfr18 hM18 HP18
         refine hK.out _ _ ⟨(blk_cell BK554.out 0).trans rfl,(blk_cell BK554.out 1).trans rfl⟩ (fun hHeld=>?_)
         clear hK K
         refine norm_ (a':=?_) ?_ ?_
         rotate_left
         ·show Act.put _ (some 22) _=_
          simp only [Act.put,List.setIfInBounds_toArray,List.set_cons_zero,List.set_cons_succ,i64_w,i32_w]
          rfl
         refine pure_ (i:=7) (N:=some 23) (v:=?_) (a':=?_) #[true,true,true,true,true,true,true,true,false,false] rfl rfl (any_of HT_.out (by kernel_rfl)) (fun _ _ _ h=>h) (Or.inl ⟨by rfl,?_⟩) ?_ ?_
         rotate_left
         ·intro w'
          go_simp
          with_reducible rfl
         rotate_left
         ·simp only [Act.put,List.setIfInBounds_toArray,List.set_cons_zero,List.set_cons_succ,i64_w,i32_w]
          rfl
         refine pure_ (i:=8) (N:=some 24) (v:=?_) (a':=?_) #[true,true,true,true,true,true,true,true,true,false] rfl rfl (any_of HT_.out (by kernel_rfl)) (fun _ _ _ h=>h) (Or.inl ⟨by rfl,?_⟩) ?_ ?_
         rotate_left
         ·intro w'
          go_simp
          with_reducible rfl
         rotate_left
         ·simp only [Act.put,List.setIfInBounds_toArray,List.set_cons_zero,List.set_cons_succ,i64_w,i32_w]
          rfl
         refine last_ (i:=9) (N:=none) #[true,true,true,true,true,true,true,true,true,true] rfl rfl (one_of HT_.out (by kernel_rfl)) (by decide) (fun K hK=>?_)
         refine skip_ (w1:=?_) (by rfl) rfl ?_ ?_
         rotate_left
         ·go_simp
          rfl
         refine hK.out _ _ ?_
         clear hK K
         refine done_ (done_of HT_.out (by kernel_rfl)) ?_
         try go_wp2
         go_roundg k1
         case measure=>have:=HK1.out;omega
         case rel=>exact ⟨(y558),(wrap64 (x11_1+1)),(by first|rfl|(simp;done)|(simp [*];done)),H',⟨by have:=HK1.out;omega⟩,⟨by (with_reducible repeat (first|apply nA_|apply nN_|apply nD_));exact Kd.N_mono HQ18.out (fun _ hk=>hk.1)⟩,⟨by repeat (first|(with_reducible first|exact HB.out|apply bA_|apply bN_|apply bD_|refine below_set ?_ GB11.out|refine below_set ?_ GB11.out|refine below_set ?_ GE554.out)|exact HB.out)⟩⟩
        ·rw [if_neg c10] at H
         exact absurd H (by simp)
       ·rw [if_neg c8] at H
        exact absurd H (by simp)
      ·rw [if_neg c7] at H
       exact absurd H (by simp)
     ·rw [if_neg c6] at H
      have c6b0:decide (x11_1 < (l0.length:Int))=false:=decide_eq_false c6
      clear c6
      obtain rfl:=Option.some.inj H
      go_wp2
      go_ret
      exact ⟨_,by first|rfl|(simp [errW_none,errW_some] <;> rfl)|(simp [*,errW_none,errW_some] <;> rfl),by (with_reducible repeat (first|apply nA_|apply nN_|apply nD_));exact HO_3.out,by repeat (first|(with_reducible first|exact HB.out|apply bA_|apply bN_|apply bD_)|exact HB.out)⟩
  ·rw [if_neg c3] at H
   exact absurd H (by simp)
 ·rw [if_neg c2] at H
  exact absurd H (by simp)
end Go.Proofs.Ytainbaehfdhmbaa.PX
namespace Go.Proofs.Ytainbaehfdhmbaa.PX
open Go.RowKit Go.Proofs.YtainbaehfdhmbaaW.PrintWords Go.Proofs.YtainbaehfdhmbaaW.PrintLast Go.Proofs.YtainbaehfdhmbaaW.PrintMore
attribute [local go_sem] max2_int min2_int max_two min_two max_three min_three max_four min_four   
set_option linter.unusedVariables false
set_option linter.unusedSimpArgs false
mutual
def tree_Names.l0:Nat→List ByteArray→List (List (S51))→Int→Int→Option (List ByteArray)
 | 0,_,_,_,_=>none
 | k+1,x3,x8,x9,x10=>if x10 < x9 then (if 0≤x10 then (if x10 < (x8.length:Int) then (tree_Names.l1 k x3 x8 x9 x10 (rd_L10 x8 x10) ((rd_L10 x8 x10).length:Int) 0) else (none)) else (none)) else ((slices_Sort_string_string.f x3).bind fun t615=>((slices_Compact_string_string.f t615).bind fun t616=>((slices_Clone_string_string.f t616).bind fun t619=>(some t619))))
def tree_Names.l1:Nat→List ByteArray→List (List (S51))→Int→Int→List (S51)→Int→Int→Option (List ByteArray)
 | 0,_,_,_,_,_,_,_=>none
 | k+1,x3,x8,x9,x10,x14,x15,x16=>if x16 < x15 then (if 0≤x16 then (if x16 < (x14.length:Int) then (if x3.length < 8796093022208 then (tree_Names.l1 k (x3 ++ [(rd_T51 x14 x16).f0]) x8 x9 x10 x14 x15 (wrap64 (x16+1))) else (none)) else (none)) else (none)) else (tree_Names.l0 k x3 x8 x9 (wrap64 (x10+1)))
end
def tree_Names.f (k:Nat) (l0:List (List (S51))):Option (List ByteArray):=tree_Names.l0 k ([]:List ByteArray) l0 (l0.length:Int) 0
theorem tree_Names.mono_l:∀ k,(∀ y0 y1 y2 y3,LeO (tree_Names.l0 k y0 y1 y2 y3) (tree_Names.l0 (k+1) y0 y1 y2 y3))∧(∀ y0 y1 y2 y3 y4 y5 y6,LeO (tree_Names.l1 k y0 y1 y2 y3 y4 y5 y6) (tree_Names.l1 (k+1) y0 y1 y2 y3 y4 y5 y6))
 | 0=>⟨fun _ _ _ _ r h=>by simp [tree_Names.l0] at h,fun _ _ _ _ _ _ _ r h=>by simp [tree_Names.l1] at h⟩
 | k+1=>by
  obtain ⟨ih0,ih1⟩:=tree_Names.mono_l k
  refine ⟨?_,?_⟩
  ·intro y0 y1 y2 y3
   unfold tree_Names.l0
   repeat' first
   | (with_reducible exact ih0 _ _ _ _)
   | (with_reducible exact ih1 _ _ _ _ _ _ _)
   | (with_reducible exact LeO.refl _)
   | (with_reducible exact LeO.none _)
   | (with_reducible refine LeO.ite ?_ ?_)
   | (with_reducible refine LeO.bind ?_ (fun _=>?_))
   | exact ih0 _ _ _ _
   | exact ih1 _ _ _ _ _ _ _
   | exact LeO.none _
   | refine LeO.ite ?_ ?_
   | refine LeO.bind ?_ (fun _=>?_)
  ·intro y0 y1 y2 y3 y4 y5 y6
   unfold tree_Names.l1
   repeat' first
   | (with_reducible exact ih0 _ _ _ _)
   | (with_reducible exact ih1 _ _ _ _ _ _ _)
   | (with_reducible exact LeO.refl _)
   | (with_reducible exact LeO.none _)
   | (with_reducible refine LeO.ite ?_ ?_)
   | (with_reducible refine LeO.bind ?_ (fun _=>?_))
   | exact ih0 _ _ _ _
   | exact ih1 _ _ _ _ _ _ _
   | exact LeO.none _
   | refine LeO.ite ?_ ?_
   | refine LeO.bind ?_ (fun _=>?_)
theorem tree_Names.mono:∀ a0 k,LeO (tree_Names.f k a0) (tree_Names.f (k+1) a0):=by
 intro a0 k
 obtain ⟨ih0,ih1⟩:=tree_Names.mono_l k
 unfold tree_Names.f
 repeat' first
   | (with_reducible exact ih0 _ _ _ _)
   | (with_reducible exact ih1 _ _ _ _ _ _ _)
   | (with_reducible exact LeO.refl _)
   | (with_reducible exact LeO.none _)
   | (with_reducible refine LeO.ite ?_ ?_)
   | (with_reducible refine LeO.bind ?_ (fun _=>?_))
   | exact ih0 _ _ _ _
   | exact ih1 _ _ _ _ _ _ _
   | exact LeO.none _
   | refine LeO.ite ?_ ?_
   | refine LeO.bind ?_ (fun _=>?_)
set_option maxHeartbeats 8000000 in
set_option maxRecDepth 100000 in
theorem tree_Names.calls (k:Nat) (A0:Option Addr) (c0:Nat) (l0:List (List (S51))) (r:List ByteArray) (w:World) (hr0:Kd.C (Kd.slice 51 k51) w A0 l0.length l0) (hc0:l0.length≤c0) (h:tree_Names.f k l0=some r) :
  Calls Try.prog 36 #[.slice A0 l0.length c0] w fun e w'=>∃ v0_:Value,e=.returned (v0_)∧Kd.R Kd.string 9 w' w.heap.size (fun _=>True) v0_ r∧Below w.heap.size w w':=by
 have hu51:=Try.underlying51
 have HR0:=Aside0.mk hr0
 have HC0:=Aside0.mk hc0
 clear hr0 hc0
 have HB:=Aside0.mk (Below.refl w.heap.size w)
 have H:(tree_Names.l0 k ([]:List ByteArray) l0 (l0.length:Int) 0)=some r:=h
 clear h
 have H':=Aside0.mk H
 clear H
 go_enter Try.func36,Try.ntmps36
 go_wp2
 go_loopg [3,10] k (fun kq v3 v10 w'=>∃ (x3_1:List ByteArray) (x10_1:Int),v10=.int .i64 x10_1∧Aside0 (tree_Names.l0 kq x3_1 l0 (l0.length:Int) x10_1=some r)∧Aside0 (kq≤k)∧Aside0 (Kd.R Kd.string 9 w' w.heap.size (fun _=>True) v3 x3_1)∧Aside0 (Below w.heap.size w w'))
 case atStart=>exact ⟨(([]:List ByteArray)),(0),(by first|rfl|(simp;done)|(simp [*];done)),H',⟨Nat.le_refl _⟩,⟨by first|exact Kd.R_nil _ _ _ _ _|exact Kd.N_nil _ _ _ _ _|exact Kd.V_nil _ _ _ _ _|exact Kd.Q_nil _ _ _ _ _|exact Kd.S_nil _ _ _ _ _⟩,⟨by repeat (first|(with_reducible first|exact HB.out|apply bA_|apply bN_|apply bD_)|exact HB.out)⟩⟩
 case round =>
  clear H'
  obtain ⟨x3_1,x10_1,rfl,HA,HK1,HO_3,HB⟩:=hrel
  cases gk with
  | zero=>exact absurd HA.out (by simp [tree_Names.l0])
  | succ k1 =>
   have H:=HA.out
   clear HA
   simp only [tree_Names.l0] at H
   by_cases c2:x10_1 < (l0.length:Int)
   ·rw [if_pos c2] at H
    have c2b0:decide (x10_1 < (l0.length:Int))=true:=decide_eq_true c2
    clear c2
    by_cases c3:0≤x10_1
    ·rw [if_pos c3] at H
     have c3b0:decide (0≤x10_1)=true:=decide_eq_true c3
     clear c3
     by_cases c4:x10_1 < (l0.length:Int)
     ·rw [if_pos c4] at H
      have c4b0:decide (x10_1 < (l0.length:Int))=true:=decide_eq_true c4
      clear c4
      have H':=Aside0.mk H
      clear H
      have p622:0≤(x10_1:Int):=of_decide_eq_true (by first|(with_reducible assumption)|assumption)
      have q622:x10_1 < (l0.length:Int):=of_decide_eq_true (by first|(with_reducible assumption)|assumption)
      obtain ⟨ad622,A622_0,c622_0,e622,hx622_0,hl622_0,hi622_0⟩:=at_L10 HR0.out x10_1 p622 q622
      cases e622
      replace hx622_0:=(HB.out.cell (World.block_lt_of_cell? w _ hx622_0)).trans hx622_0
      have HR622_0:=Aside0.mk hi622_0
      have HC622_0:=Aside0.mk hl622_0
      clear hi622_0 hl622_0
      replace p622:=eq_true p622
      replace q622:=eq_true q622
      go_wp2
      go_loopg [3,16] k1 (fun kq v3 v16 w'=>∃ (x3_2:List ByteArray) (x16_2:Int),v16=.int .i64 x16_2∧Aside0 (tree_Names.l1 kq x3_2 l0 (l0.length:Int) x10_1 (rd_L10 l0 x10_1) ((rd_L10 l0 x10_1).length:Int) x16_2=some r)∧Aside0 (kq≤k1)∧Aside0 (Kd.R Kd.string 9 w' w.heap.size (fun _=>True) v3 x3_2)∧Aside0 (Below w.heap.size w w'))
      case atStart=>exact ⟨(x3_1),(0),(by first|rfl|(simp;done)|(simp [*];done)),H',⟨Nat.le_refl _⟩,⟨by (with_reducible repeat (first|apply rA_|apply rN_|apply rD_));exact HO_3.out⟩,⟨by repeat (first|(with_reducible first|exact HB.out|apply bA_|apply bN_|apply bD_)|exact HB.out)⟩⟩
      case round =>
       clear H'
       try clear c2
       try clear c2b0
       try clear p2
       try clear c3
       try clear c3b0
       try clear c4
       try clear c4b0
       try clear hx622_0
       try clear p622
       try clear q622
       obtain ⟨x3_2,x16_2,rfl,HA,HK2,HO_3,HB⟩:=hrel
       cases gk with
       | zero=>exact absurd HA.out (by simp [tree_Names.l1])
       | succ k2 =>
        have H:=HA.out
        clear HA
        simp only [tree_Names.l1] at H
        by_cases c5:x16_2 < ((rd_L10 l0 x10_1).length:Int)
        ·rw [if_pos c5] at H
         have c5b0:decide (x16_2 < ((rd_L10 l0 x10_1).length:Int))=true:=decide_eq_true c5
         clear c5
         by_cases c6:0≤x16_2
         ·rw [if_pos c6] at H
          have c6b0:decide (0≤x16_2)=true:=decide_eq_true c6
          clear c6
          by_cases c7:x16_2 < ((rd_L10 l0 x10_1).length:Int)
          ·rw [if_pos c7] at H
           have c7b0:decide (x16_2 < ((rd_L10 l0 x10_1).length:Int))=true:=decide_eq_true c7
           clear c7
           by_cases c8:x3_2.length < 8796093022208
           ·rw [if_pos c8] at H
            have LMc8:=Aside0.mk c8
            clear c8
            obtain ⟨y625,hy625⟩:∃ y_:List ByteArray,y_=(x3_2 ++ [(rd_T51 (rd_L10 l0 x10_1) x16_2).f0]):=⟨_,rfl⟩
            replace H:(tree_Names.l1 k2 y625 l0 (l0.length:Int) x10_1 (rd_L10 l0 x10_1) ((rd_L10 l0 x10_1).length:Int) (wrap64 (x16_2+1)))=some r:=by first|(rw [hy625];with_reducible exact H)|(have H2_:=(Option.bind_some _ _).symm.trans H;rw [hy625];with_reducible exact H2_)|(have H2_:=(Option.bind_some _ _).symm.trans H;with_reducible exact H2_)|with_reducible exact H|(rw [hy625];exact H)|exact H
            have Ny625:=Aside0.mk hy625
            clear hy625
            have H':=Aside0.mk H
            clear H
            have p623:0≤(x16_2:Int):=of_decide_eq_true (by first|(with_reducible assumption)|assumption)
            have q623:x16_2 < ((rd_L10 l0 x10_1).length:Int):=of_decide_eq_true (by first|(with_reducible assumption)|assumption)
            obtain ⟨ad623,A623_1,c623_1,e623,hx623_0,hx623_1,hl623_1,hi623_1⟩:=at_T51 HR622_0.out x16_2 p623 q623
            cases e623
            replace hx623_0:=(HB.out.cell (World.block_lt_of_cell? w _ hx623_0)).trans hx623_0
            replace hx623_1:=(HB.out.cell (World.block_lt_of_cell? w _ hx623_1)).trans hx623_1
            have HR623_1:=Aside0.mk hi623_1
            have HC623_1:=Aside0.mk hl623_1
            clear hi623_1 hl623_1
            replace p623:=eq_true p623
            replace q623:=eq_true q623
            go_wp2_with (first|((with_reducible refine gate_dst (N:=7) rfl ?_);refine box_event ?hg (N:=7) ?hd (cs:=#[.string (⟨#[]⟩:ByteArray),.slice none 0 0]) (t:=51) ?hr ?_;(case hd=>rfl);(case hg=>rfl);(case hr=>first|(go_simp;done)|(go_simp;rfl));intro gb624 hg w9 hbox hb;have n0_:=Aside0.mk (Kd.R_below (by (with_reducible repeat (first|apply rA_|apply rN_|apply rD_));exact HO_3.out) hb);have n1_:=Aside0.mk (below_step (by repeat (first|(with_reducible first|exact HB.out|apply bA_|apply bN_|apply bD_)|exact HB.out)) hb);have n2_:=Aside0.mk (hbox);have n3_:=Aside0.mk ((by rw [hg];exact (below_size (by repeat (first|(with_reducible first|exact HB.out|apply bA_|apply bN_|apply bD_)|exact HB.out))):w.heap.size≤gb624));have n4_:=Aside0.mk ((by rw [hg];exact (below_size (by repeat (first|(with_reducible first|exact HB.out|apply bA_|apply bN_|apply bD_)|exact HB.out))):w.heap.size≤gb624));clear HO_3;clear HB;have HO_3:=n0_;have HB:=n1_;have BK624:=n2_;have GW624:=n3_;have GE624:=n4_;clear n0_ n1_ n2_ n3_ n4_;clear hb hbox hg;have hcz10_0:w9.cell? ⟨gb624,0,none⟩=some (.string (⟨#[]⟩:ByteArray)):=(blk_cell BK624.out 0).trans rfl;have hcz10_1:w9.cell? ⟨gb624,1,none⟩=some (.slice none 0 0):=(blk_cell BK624.out 1).trans rfl;have hfz10_0:=blk_frozen BK624.out 0;have hfz10_1:=blk_frozen BK624.out 1)|((with_reducible refine gate_builtin (b:=.append) (xs:=#[.tmp 20,.tmp 23]) rfl ?_);at_builtin;refine Kd.R_append Kd.string (w0:=w) w.heap.size rfl (.tmp 20) (.tmp 23) 35 9 (.string ⟨#[]⟩) 16 rfl Try.underlying35 info9 rfl (by decide) (by omega) u3 x3_2 ((rd_T51 (rd_L10 l0 x10_1) x16_2).f0) [.string ((rd_T51 (rd_L10 l0 x10_1) x16_2).f0)] (fun _=>True) (fun _=>False) rfl (by first|(go_simp;done)|(go_simp;rfl)) ?aP (fun _ hk=>hk.elim) ?aF ?aO ?aB ?aS ?aL ?_;(case aP=>exact rfl);(case aB=>exact (by repeat (first|(with_reducible first|exact HB.out|apply bA_|apply bN_|apply bD_|refine below_set ?_ GE624.out)|exact HB.out)));(case aF=>exact (fun _ _=>trivial));(case aO=>exact (by (with_reducible repeat (first|apply rA_|apply rN_|apply rD_));exact Kd.R_mono (Kd.R_far (p:=⟨gb624,1,none⟩) (Kd.R_far (p:=⟨gb624,0,none⟩) (Kd.R_types HO_3.out BK624.out (by decide)) (fun _ hk=>hk.2) (.string ((rd_T51 (rd_L10 l0 x10_1) x16_2).f0))) (fun _ hk=>hk.2) (.slice A623_1 ((rd_T51 (rd_L10 l0 x10_1) x16_2).f1).length c623_1)) (fun _ hk=>trivial)));(case aS=>exact (below_size (by repeat (first|(with_reducible first|exact HB.out|apply bA_|apply bN_|apply bD_|refine below_set ?_ GE624.out)|exact HB.out))));(case aL=>have:=LMc8.out;omega);intro v626 w11 ho hb hg hat;rw [← Ny625.out] at ho;have n0_:=Aside0.mk (blk_grown (g:=gb624) (o:=.cells #[.string ((rd_T51 (rd_L10 l0 x10_1) x16_2).f0),.slice A623_1 ((rd_T51 (rd_L10 l0 x10_1) x16_2).f1).length c623_1] 51 (0,0)) (by (with_reducible repeat (first|refine blk_drewN ?_ _|refine blk_drew ?_|refine blk_alloc ?_ _));refine blk_put (cs:=#[.string ((rd_T51 (rd_L10 l0 x10_1) x16_2).f0),.slice none 0 0]) ?_ 1 _ rfl;(with_reducible repeat (first|refine blk_drewN ?_ _|refine blk_drew ?_|refine blk_alloc ?_ _));refine blk_put (cs:=#[.string (⟨#[]⟩:ByteArray),.slice none 0 0]) ?_ 0 _ rfl;(with_reducible repeat (first|refine blk_drewN ?_ _|refine blk_drew ?_|refine blk_alloc ?_ _));exact BK624.out) hg (Kd.R_ne HO_3.out BK624.out (by decide)));have n1_:=Aside0.mk (hb);have n2_:=Aside0.mk (ho);clear BK624;clear HB;clear HO_3;have BK624:=n0_;have HB:=n1_;have HO627:=n2_;clear n0_ n1_ n2_;clear ho hb hg hat))
            go_roundg k2
            case measure=>have:=HK1.out;have:=HK2.out;omega
            case rel=>exact ⟨(y625),(wrap64 (x16_2+1)),(by first|rfl|(simp;done)|(simp [*];done)),H',⟨by have:=HK1.out;have:=HK2.out;omega⟩,⟨by (with_reducible repeat (first|apply rA_|apply rN_|apply rD_));exact HO627.out⟩,⟨by repeat (first|(with_reducible first|exact HB.out|apply bA_|apply bN_|apply bD_|refine below_set ?_ GE624.out)|exact HB.out)⟩⟩
           ·rw [if_neg c8] at H
            exact absurd H (by simp)
          ·rw [if_neg c7] at H
           exact absurd H (by simp)
         ·rw [if_neg c6] at H
          exact absurd H (by simp)
        ·rw [if_neg c5] at H
         have c5b0:decide (x16_2 < ((rd_L10 l0 x10_1).length:Int))=false:=decide_eq_false c5
         clear c5
         have H':=Aside0.mk H
         clear H
         go_wp2
         go_roundg k2
         case measure=>have:=HK1.out;have:=HK2.out;omega
         case rel=>exact ⟨(x3_2),(wrap64 (x10_1+1)),(by first|rfl|(simp;done)|(simp [*];done)),H',⟨by have:=HK1.out;have:=HK2.out;omega⟩,⟨by (with_reducible repeat (first|apply rA_|apply rN_|apply rD_));exact HO_3.out⟩,⟨by repeat (first|(with_reducible first|exact HB.out|apply bA_|apply bN_|apply bD_)|exact HB.out)⟩⟩
     ·rw [if_neg c4] at H
      exact absurd H (by simp)
    ·rw [if_neg c3] at H
     exact absurd H (by simp)
   ·rw [if_neg c2] at H
    have c2b0:decide (x10_1 < (l0.length:Int))=false:=decide_eq_false c2
    clear c2
    replace H:=Option.bind_eq_some_iff.mp H
    obtain ⟨t615,A120,H⟩:=H
    replace H:((slices_Compact_string_string.f t615).bind fun t616=>((slices_Clone_string_string.f t616).bind fun t619=>(some t619)))=some r:=H
    have A12:=Aside0.mk A120
    clear A120
    replace H:=Option.bind_eq_some_iff.mp H
    obtain ⟨t616,A130,H⟩:=H
    replace H:((slices_Clone_string_string.f t616).bind fun t619=>(some t619))=some r:=H
    have A13:=Aside0.mk A130
    clear A130
    replace H:=Option.bind_eq_some_iff.mp H
    obtain ⟨t619,A140,H⟩:=H
    replace H:(some t619)=some r:=H
    have A14:=Aside0.mk A140
    clear A140
    obtain rfl:=Option.some.inj H
    obtain ⟨Ao15,co15,eo15⟩:=Kd.R_slice HO_3.out
    subst eo15
    go_wp2_with (first|((with_reducible refine gate_callee (f:=48) rfl ?_);refine goesL_ (some 28) rfl rfl Try.func48 (by kernel_rfl) rfl #[.slice Ao15 x3_1.length co15] rfl (by (try simp only [List.map_toArray,List.map_cons,List.map_nil]);first|done|rfl|(simp only [List.length_drop,List.length_take];rfl)) ?_;(with_reducible refine (slices_Sort_string_string.calls (fun k_=>some k_=(.slice Ao15 x3_1.length co15:Value).ownBlock) (.slice Ao15 x3_1.length co15) x3_1 t615 w _ ?side1 ?side2 A12.out).mono ?_);(case side1=>repeat (first|(with_reducible first|exact HB.out|apply bA_|apply bN_|apply bD_)|exact HB.out));(case side2=>exact Kd.R_tight rfl HO_3.out);rintro e w16 ⟨rfl,hy0,hb,hkp⟩;refine ⟨_,rfl,?_⟩;have n0_:=Aside0.mk (Kd.R_reok rfl hy0 (fun k_ e_=>HO_3.out.1 k_ e_));have n1_:=Aside0.mk (hb);clear HO_3;clear HB;have HO_3:=n0_;have HB:=n1_;clear n0_ n1_;(try clear hb);(try clear hkp);(try clear hy0))|((with_reducible refine gate_callee (f:=49) rfl ?_);refine goesL_ (some 30) rfl rfl Try.func49 (by kernel_rfl) rfl #[.slice Ao15 x3_1.length co15] rfl (by (try simp only [List.map_toArray,List.map_cons,List.map_nil]);first|done|rfl|(simp only [List.length_drop,List.length_take];rfl)) ?_;(with_reducible refine (slices_Compact_string_string.calls (fun k_=>some k_=(.slice Ao15 x3_1.length co15:Value).ownBlock) (.slice Ao15 x3_1.length co15) t615 t616 w _ ?side1 ?side2 A13.out).mono ?_);(case side1=>repeat (first|(with_reducible first|exact HB.out|apply bA_|apply bN_|apply bD_)|exact HB.out));(case side2=>exact Kd.R_tight rfl HO_3.out);rintro e w17 ⟨v617,rfl,ho0,hb,hkp⟩;refine ⟨_,rfl,?_⟩;have n0_:=Aside0.mk (Kd.R_mono (ok':=fun k_=>True) ho0 (fun k_ hk_=>trivial));have n1_:=Aside0.mk (hb);clear HB;clear HO_3;have HO618:=n0_;have HB:=n1_;clear n0_ n1_;(try clear hb);(try clear hkp);(try clear ho0);obtain ⟨Ao18,co18,eo18⟩:=Kd.R_slice HO618.out;subst eo18)|((with_reducible refine gate_callee (f:=35) rfl ?_);refine goesL_ (some 31) rfl rfl Try.func35 (by kernel_rfl) rfl #[.slice Ao18 t616.length co18] rfl (by (try simp only [List.map_toArray,List.map_cons,List.map_nil]);first|done|rfl|(simp only [List.length_drop,List.length_take];rfl)) ?_;(with_reducible refine (slices_Clone_string_string.calls _ _ t616 t619 _ ?side1 ?side2 A14.out).mono ?_);(case side1=>repeat (first|exact (Kd.R_reads' HO618.out).2.2|(with_reducible refine cA_ ?_ _)|(with_reducible refine cN_ ?_ _)|(with_reducible refine cD_ ?_)));(case side2=>exact (Kd.R_reads' HO618.out).2.1);rintro e w19 ⟨v620,rfl,ho0,hb⟩;refine ⟨_,rfl,?_⟩;have n0_:=Aside0.mk (Kd.R_elder' (by (with_reducible repeat (first|apply rA_|apply rN_|apply rD_));exact HO618.out) (Kd.R_base ho0) hb);have n1_:=Aside0.mk (Kd.R_lower (Kd.R_new' ho0 (Kd.R_lt (by (with_reducible repeat (first|apply rA_|apply rN_|apply rD_));exact HO618.out))) (below_size (by repeat (first|(with_reducible first|exact HB.out|apply bA_|apply bN_|apply bD_)|exact HB.out))));have n2_:=Aside0.mk (below_step (by repeat (first|(with_reducible first|exact HB.out|apply bA_|apply bN_|apply bD_)|exact HB.out)) hb);clear HO618;clear HB;have HO618:=n0_;have HO621:=n1_;have HB:=n2_;clear n0_ n1_ n2_;(try clear hb);(try clear hb2);(try clear hk);(try clear hi);(try clear ho0)))
    go_ret
    exact ⟨_,by first|rfl|(simp [errW_none,errW_some] <;> rfl)|(simp [*,errW_none,errW_some] <;> rfl),by (with_reducible repeat (first|apply rA_|apply rN_|apply rD_));exact Kd.R_mono HO621.out (fun _ hk=>trivial),by repeat (first|(with_reducible first|exact HB.out|apply bA_|apply bN_|apply bD_)|exact HB.out)⟩
end Go.Proofs.Ytainbaehfdhmbaa.PX
set_option linter.unusedVariables false
namespace Go.Proofs.Ytainbaehfdhmbaa.PX
open Go.RowKit Go.Proofs.YtainbaehfdhmbaaW.PrintWords Go.Proofs.YtainbaehfdhmbaaW.PrintLast Go.Proofs.YtainbaehfdhmbaaW.PrintMore Go.Proofs.Ytainbaehfdhmbaa
theorem own_ev {W:Nat} (hW:W≤1000000):∀ {d:Nat} {t:Tr},Ok W d t→Ev (fun k=>tree_own.f k t) t:=by
 intro d
 induction d with
 | zero =>
  intro t ht
  rw [show t = [] from ht]
  refine Ev.step (f:=fun k=>tree_own.l0 k [] [] 0 0) (fun k=>by simp only [tree_own.f];rfl) (Ev.step (f:=fun _=>some []) (fun k=>by simp only [tree_own.l0];rw [if_neg (by omega)]) (Ev.now _))
 | succ d ih =>
  intro t ht
  have hl:=ht.length
  have loop:∀ (m i:Nat) (x:Tr),i+m=t.length→x.length=t.length→(∀ j,j < i→x[j]? = t[j]?)→Ev (fun k=>tree_own.l0 k x t (t.length:Int) (i:Int)) t:=by
   intro m
   induction m with
   | zero =>
    intro i x hi hx hj
    have hxt:x=t:=by
     refine List.ext_getElem? fun j=>?_
     rcases Nat.lt_or_ge j i with h|h
     ·exact hj j h
     ·rw [List.getElem?_eq_none (by omega),List.getElem?_eq_none (by omega)]
    subst hxt
    exact Ev.step (f:=fun _=>some x) (fun k=>by simp only [tree_own.l0];rw [if_neg (by omega)]) (Ev.now _)
   | succ m ihm =>
    intro i x hi hx hj
    have hil:i < t.length:=by omega
    have e:∀ k,tree_own.l0 (k+1) x t (t.length:Int) (i:Int)=(tree_own.f k t[i].f1).bind fun q=>tree_own.l0 k (x.set i ⟨t[i].f0,q⟩) t (t.length:Int) ((i+1:Nat):Int):=fun k=>by
     simp only [tree_own.l0]
     rw [if_pos (by omega),if_pos (by omega),if_pos (by omega),rdT_nat hil,wrap_succ (by omega)]
     congr 1
     funext q
     rw [if_pos (by omega),Int.toNat_natCast]
    refine Ev.step e (Ev.bind (ih (ht.2.2 _ (List.getElem_mem hil))) (ihm (i+1) _ (by omega) (by simpa using hx) fun j hji=>?_))
    rw [List.getElem?_set]
    split
    ·rename_i hij
     subst hij
     rw [if_pos (by omega),List.getElem?_eq_getElem hil]
     cases t[i];rfl
    ·exact hj j (by omega)
  refine Ev.step (f:=fun k=>tree_own.l0 k (List.replicate t.length z51) t (t.length:Int) 0) (fun k=>?_) (loop t.length 0 _ (by omega) (by simp) (fun j h=>absurd h (Nat.not_lt_zero _)))
  simp only [tree_own.f]
  rw [if_pos (by omega),if_pos (by omega)]
  rfl
def nms (t:Tr):List Str:=t.map fun x=>tl x.f0
def namesOf (ts:List Tr):List ByteArray:=(ofL (ts.flatMap nms)).map ba
theorem rdL_t {xs:List Tr} {i:Nat} (h:i < xs.length):rd_L10 xs (i:Int)=xs[i]:=by
 simp [rd_L10,List.getD_eq_getElem?_getD,h]
theorem namesOf_length (ts:List Tr):(namesOf ts).length≤(ts.flatMap nms).length:=by
 unfold namesOf
 rw [List.length_map]
 exact ofL_length_le _
theorem treeNames_ev (ts:List Tr) (hn:ts.length≤1000) (hs:(ts.flatMap nms).length≤1000000):Ev (fun k=>tree_Names.f k ts) (namesOf ts):=by
 have take_le:∀ i,((ts.take i).flatMap nms).length≤(ts.flatMap nms).length:=by
  intro i
  have:ts.flatMap nms=(ts.take i).flatMap nms ++ (ts.drop i).flatMap nms:=by rw [← List.flatMap_append,List.take_append_drop]
  rw [this,List.length_append]
  omega
 have next:∀ i (h:i < ts.length),(ts.take (i+1)).flatMap nms=(ts.take i).flatMap nms ++ nms ts[i]:=by
  intro i h
  rw [List.take_succ_eq_append_getElem h,List.flatMap_append]
  simp
 have fin:∀ i,ts.length≤i→∀ k,tree_Names.l0 (k+1) (((ts.take i).flatMap nms).map ba) ts (ts.length:Int) (i:Int)=some (namesOf ts):=by
  intro i hi k
  rw [List.take_of_length_le hi]
  have h1:slices_Sort_string_string.f ((ts.flatMap nms).map ba)=some (((ts.flatMap nms).mergeSort fun x y=>decide (x≤y)).map ba):=by
   unfold slices_Sort_string_string.f
   rw [if_pos (by rw [List.length_map];omega)]
   unfold sortB
   rw [map_tl_ba]
  have h2:slices_Compact_string_string.f (((ts.flatMap nms).mergeSort fun x y=>decide (x≤y)).map ba)=some (namesOf ts):=by
   unfold slices_Compact_string_string.f
   rw [if_pos (by rw [List.length_map,List.length_mergeSort];omega)]
   unfold compactB namesOf ofL
   rw [map_tl_ba]
  have h3:slices_Clone_string_string.f (namesOf ts)=some (namesOf ts):=by
   have:=namesOf_length ts
   unfold slices_Clone_string_string.f
   rw [Option.bind_some,List.length_nil,if_pos (by omega),List.nil_append]
  simp only [tree_Names.l0]
  rw [if_neg (by omega),h1,Option.bind_some,h2,Option.bind_some,h3,Option.bind_some]
 have inner:∀ i (hi:i < ts.length),Ev (fun k=>tree_Names.l0 k (((ts.take (i+1)).flatMap nms).map ba) ts (ts.length:Int) ((i+1:Nat):Int)) (namesOf ts) →
   ∀ (m j:Nat),j+m=ts[i].length→Ev (fun k=>tree_Names.l1 k (((ts.take i).flatMap nms ++ (nms ts[i]).take j).map ba) ts (ts.length:Int) (i:Int) ts[i] (ts[i].length:Int) (j:Int)) (namesOf ts):=by
  intro i hi h0 m
  have hnl:(nms ts[i]).length=ts[i].length:=by simp [nms]
  have hle:=take_le (i+1)
  rw [next i hi,List.length_append] at hle
  induction m with
  | zero =>
   intro j hj
   have e:∀ k,tree_Names.l1 (k+1) (((ts.take i).flatMap nms ++ (nms ts[i]).take j).map ba) ts (ts.length:Int) (i:Int) ts[i] (ts[i].length:Int) (j:Int)=tree_Names.l0 k (((ts.take (i+1)).flatMap nms).map ba) ts (ts.length:Int) ((i+1:Nat):Int):=fun k=>by
    simp only [tree_Names.l1]
    rw [if_neg (by omega),wrap_succ (by omega),List.take_of_length_le (l:=nms ts[i]) (by omega),next i hi]
   exact Ev.step e h0
  | succ m ihm =>
   intro j hj
   have hjl:j < ts[i].length:=by omega
   have e:∀ k,tree_Names.l1 (k+1) (((ts.take i).flatMap nms ++ (nms ts[i]).take j).map ba) ts (ts.length:Int) (i:Int) ts[i] (ts[i].length:Int) (j:Int)=tree_Names.l1 k (((ts.take i).flatMap nms ++ (nms ts[i]).take (j+1)).map ba) ts (ts.length:Int) (i:Int) ts[i] (ts[i].length:Int) ((j+1:Nat):Int):=fun k=>by
    simp only [tree_Names.l1]
    rw [if_pos (by omega),if_pos (by omega),if_pos (by omega),if_pos (by rw [List.length_map,List.length_append,List.length_take];omega),rdT_nat hjl,wrap_succ (by omega)]
    congr 1
    rw [List.take_succ_eq_append_getElem (by omega),← List.append_assoc,List.map_append,List.map_append]
    simp [nms,ba_tl]
   exact Ev.step e (ihm (j+1) (by omega))
 have outer:∀ (m i:Nat),i+m=ts.length→Ev (fun k=>tree_Names.l0 k (((ts.take i).flatMap nms).map ba) ts (ts.length:Int) (i:Int)) (namesOf ts):=by
  intro m
  induction m with
  | zero=>intro i hi;exact Ev.step (f:=fun _=>some (namesOf ts)) (fun k=>fin i (by omega) k) (Ev.now _)
  | succ m ihm =>
   intro i hi
   have hil:i < ts.length:=by omega
   have h1:=inner i hil (ihm (i+1) (by omega)) ts[i].length 0 (by omega)
   rw [List.take_zero,List.append_nil] at h1
   have e:∀ k,tree_Names.l0 (k+1) (((ts.take i).flatMap nms).map ba) ts (ts.length:Int) (i:Int)=tree_Names.l1 k (((ts.take i).flatMap nms).map ba) ts (ts.length:Int) (i:Int) ts[i] (ts[i].length:Int) ((0:Nat):Int):=fun k=>by
    simp only [tree_Names.l0]
    rw [if_pos (by omega),if_pos (by omega),if_pos (by omega),rdL_t hil]
    rfl
   exact Ev.step e h1
 exact outer ts.length 0 (by omega)
end Go.Proofs.Ytainbaehfdhmbaa.PX
set_option linter.unusedVariables false
set_option linter.unusedSimpArgs false
namespace Go.Proofs.Ytainbaehfdhmbaa.PX
open Go.RowKit Go.Proofs.YtainbaehfdhmbaaW.PrintWords Go.Proofs.YtainbaehfdhmbaaW.PrintLast Go.Proofs.YtainbaehfdhmbaaW.PrintMore Go.Proofs.Ytainbaehfdhmbaa
theorem cmp_lt:∀ a b:Str,Lib.compareBytes a b < 0 ↔ a < b
 | [],[]=>by simp [Lib.compareBytes]
 | [],b :: y=>by simp [Lib.compareBytes]
 | a :: x,[]=>by simp [Lib.compareBytes]
 | a :: x,b :: y=>by
  unfold Lib.compareBytes
  by_cases h:a < b
  ·simp [h,List.cons_lt_cons_iff]
  ·by_cases h':b < a
   ·have hne:a≠b:=fun e=>by subst e;exact h h'
    simp [h,h',List.cons_lt_cons_iff,hne]
   ·have he:a=b:=UInt8.toNat_inj.1 (by have:=UInt8.not_lt.1 h;have:=UInt8.not_lt.1 h';rw [UInt8.le_iff_toNat_le] at *;omega)
    subst he
    simp [h,List.cons_lt_cons_iff,cmp_lt x y]
theorem cmp_eq0:∀ a b:Str,Lib.compareBytes a b=0 ↔ a=b
 | [],[]=>by simp [Lib.compareBytes]
 | [],b :: y=>by simp [Lib.compareBytes]
 | a :: x,[]=>by simp [Lib.compareBytes]
 | a :: x,b :: y=>by
  unfold Lib.compareBytes
  by_cases h:a < b
  ·have hne:a≠b:=fun e=>by subst e;exact UInt8.lt_irrefl _ h
   simp [h,hne]
  ·by_cases h':b < a
   ·have hne:a≠b:=fun e=>by subst e;exact h h'
    simp [h,h',hne]
   ·have he:a=b:=UInt8.toNat_inj.1 (by have:=UInt8.not_lt.1 h;have:=UInt8.not_lt.1 h';rw [UInt8.le_iff_toNat_le] at *;omega)
    subst he
    simp [h,cmp_eq0 x y]
theorem find_cmp (x s:ByteArray) (A:Option Addr) (n c:Nat) (W:World) :
  Calls Try.prog 66 #[.agg #[.string x,.slice A n c],.string s] W fun e w'=>e=.returned (.int .i64 (Lib.compareBytes x.data.toList s.data.toList))∧Below W.heap.size W w':=by
 have hu:=Try.underlying51
 go_enter Try.func66,Try.ntmps66
 go_wp2_with (go_at_call 67;refine (Try.strings_Compare _ _ _).mono ?_;rintro e w' ⟨rfl,rfl⟩)
 go_ret
 exact ⟨rfl,below_alloc (Below.refl _ _) _⟩
set_option maxHeartbeats 4000000 in
set_option maxRecDepth 100000 in
theorem bsearch (A:Option Addr) (c:Nat) (l:Tr) (a:ByteArray) (w:World) (hC:Kd.C k51 w A l.length l) (hs:Sorted l) (hl:l.length≤1000000000000) :
  Calls Try.prog 65 #[.slice A l.length c,.string a,.func (.func 66) #[] #[]] w fun e w'=>e=.returned (.tuple #[.int .i64 (pos l a:Nat),.bool (hasAt l a)])∧Below w.heap.size w w':=by
 have hu:=Try.underlying51
 have HC:=Aside0.mk hC
 have LT:=Aside0.mk (pos_below l a)
 have GE:=Aside0.mk (pos_above l a hs)
 have HH:=Aside0.mk (hasAt_pos l a)
 have PL:=pos_le l a
 clear hC hs
 generalize hp:pos l a=p at LT GE HH PL ⊢
 generalize hasAt l a=hb at HH ⊢
 clear hp
 generalize hn:l.length=n at PL hl ⊢
 have HN:=Aside0.mk hn
 clear hn
 go_enter Try.func65,Try.ntmps65
 go_wp2
 go_loopg [9,10] n (fun kx s9 s10 wr=>∃ lo hi:Nat,s9=.int .i64 lo∧s10=.int .i64 hi∧lo≤p∧p≤hi∧hi≤n∧hi - lo≤kx∧Aside0 (Below w.heap.size w wr))
 case atStart=>exact ⟨0,n,rfl,rfl,Nat.zero_le _,PL,Nat.le_refl _,by omega,⟨Below.refl _ _⟩⟩
 case round =>
  obtain ⟨lo,hi,rfl,rfl,h1,h2,h3,h4,HB⟩:=hrel
  by_cases hlt:lo < hi
  ·have hm:(lo+hi) / 2 < l.length:=by rw [HN.out];omega
   obtain ⟨ad,A1,c1,rfl,hx0,hx1,_⟩:=at_T51 HC.out (((lo+hi) / 2:Nat):Int) (by omega) (by exact_mod_cast hm)
   replace hx0:=(HB.out.cell (World.block_lt_of_cell? w _ hx0)).trans hx0
   replace hx1:=(HB.out.cell (World.block_lt_of_cell? w _ hx1)).trans hx1
   rw [rdT_nat hm] at hx0 hx1
   have hc:=fun W=>find_cmp (l[(lo+hi) / 2]).f0 a A1 (l[(lo+hi) / 2]).f1.length c1 W
   have hv:Lib.compareBytes (l[(lo+hi) / 2]).f0.data.toList a.data.toList < 0 ↔ tl (l[(lo+hi) / 2]).f0 < tl a:=cmp_lt _ _
   have hp1:tl (l[(lo+hi) / 2]).f0 < tl a→(lo+hi) / 2 < p:=fun h=>Nat.lt_of_not_le fun h'=>GE.out _ hm h' h
   have hp2:¬ tl (l[(lo+hi) / 2]).f0 < tl a→p≤(lo+hi) / 2:=fun h=>Nat.le_of_not_lt fun h'=>h (LT.out _ hm h')
   simp only [Int.toNat_natCast] at hx0 hx1
   generalize (l[(lo+hi) / 2]).f1.length=m1 at hx1 hc
   generalize (l[(lo+hi) / 2]).f0=y at hx0 hc hv hp1 hp2
   generalize hcv:Lib.compareBytes y.data.toList a.data.toList=cv at hc hv
   have X:=Aside0.mk (And.intro hp1 hp2)
   clear hp1 hp2 hcv hm
   by_cases hyx:cv < 0
   ·have hpm:=X.out.1 (hv.1 hyx)
    clear X hv
    go_wp2_with (go_at_call 66;refine (hc _).mono ?_;rintro e w' ⟨rfl,hb'⟩)
    go_roundg (hi - ((lo+hi) / 2+1))
    case measure=>omega
    case rel=>exact ⟨(lo+hi) / 2+1,hi,by rw [show ((lo:Int)+(hi:Int)) / 2+1=(((lo+hi) / 2+1:Nat):Int) by omega],rfl,by omega,h2,h3,Nat.le_refl _,⟨below_then HB.out HB.out.size hb'⟩⟩
   ·have hpm:=X.out.2 (fun h=>hyx (hv.2 h))
    clear X hv
    go_wp2_with (go_at_call 66;refine (hc _).mono ?_;rintro e w' ⟨rfl,hb'⟩)
    go_roundg ((lo+hi) / 2 - lo)
    case measure=>omega
    case rel=>exact ⟨lo,(lo+hi) / 2,rfl,by rw [show ((lo:Int)+(hi:Int)) / 2=(((lo+hi) / 2:Nat):Int) by omega],h1,by omega,by omega,Nat.le_refl _,⟨below_then HB.out HB.out.size hb'⟩⟩
  ·obtain rfl:lo=p:=by omega
   by_cases hn:lo < n
   ·have hm:lo < l.length:=by rw [HN.out];exact hn
    obtain ⟨ad,A1,c1,rfl,hx0,hx1,_⟩:=at_T51 HC.out (lo:Int) (by omega) (by exact_mod_cast hm)
    replace hx0:=(HB.out.cell (World.block_lt_of_cell? w _ hx0)).trans hx0
    replace hx1:=(HB.out.cell (World.block_lt_of_cell? w _ hx1)).trans hx1
    rw [rdT_nat hm] at hx0 hx1
    have hc:=fun W=>find_cmp (l[lo]).f0 a A1 (l[lo]).f1.length c1 W
    have hv:Lib.compareBytes (l[lo]).f0.data.toList a.data.toList=0 ↔ tl (l[lo]).f0=tl a:=cmp_eq0 _ _
    have hh:hb=decide ((l[lo]).f0=a):=by rw [HH.out,dif_pos hm]
    simp only [Int.toNat_natCast] at hx0 hx1
    generalize (l[lo]).f1.length=m1 at hx1 hc
    generalize (l[lo]).f0=y at hx0 hc hv hh
    generalize Lib.compareBytes y.data.toList a.data.toList=cv at hc hv
    have hbv:hb=decide (cv=0):=by
     rw [hh]
     by_cases e:y=a
     ·rw [decide_eq_true e,decide_eq_true (hv.2 (by rw [e]))]
     ·rw [decide_eq_false e,decide_eq_false (fun h=>e (tl_inj (hv.1 h)))]
    clear hh hv
    subst hbv
    clear hm
    go_wp2_with (go_at_call 66;refine (hc _).mono ?_;rintro e w' ⟨rfl,hb'⟩)
    go_ret2
    exact ⟨rfl,below_then HB.out HB.out.size hb'⟩
   ·have hbv:hb=false:=by rw [HH.out,dif_neg (by rw [HN.out];exact hn)]
    subst hbv
    go_wp2
    go_ret2
    exact ⟨rfl,HB.out⟩
def tree_find.f (l0:Tr) (a1:ByteArray):Option (Int × Bool):=if l0.length≤1000000000000∧Sorted l0 then some ((pos l0 a1:Nat),hasAt l0 a1) else none
theorem tree_find.calls (A0:Option Addr) (c0:Nat) (l0:List S51) (a1:ByteArray) (r1:Int) (r2:Bool) (w:World) (hr0:Kd.C k51 w A0 l0.length l0) (hc0:l0.length≤c0) (h:tree_find.f l0 a1=some (r1,r2)) :
  Calls Try.prog 59 #[.slice A0 l0.length c0,.string a1] w fun e w'=>e=.returned (.tuple #[.int .i64 r1,.bool r2])∧Below w.heap.size w w':=by
 unfold tree_find.f at h
 split at h
 ·rename_i hl
  simp only [Option.some.injEq,Prod.mk.injEq] at h
  obtain ⟨rfl,rfl⟩:=h
  have hc:=bsearch A0 c0 l0 a1 w hr0 hl.2 hl.1
  generalize l0.length=n at hc
  generalize pos l0 a1=p at hc
  generalize hasAt l0 a1=b at hc
  clear hl hr0 hc0
  go_enter Try.func59,Try.ntmps59
  go_wp2_with (go_at_call 65;refine hc.mono ?_;rintro e w' ⟨rfl,hb'⟩)
  go_ret2
  exact ⟨rfl,hb'⟩
 ·cases h
end Go.Proofs.Ytainbaehfdhmbaa.PX
namespace Go.Proofs.Ytainbaehfdhmbaa.PX
open Go.RowKit Go.Proofs.YtainbaehfdhmbaaW.PrintWords Go.Proofs.YtainbaehfdhmbaaW.PrintLast Go.Proofs.YtainbaehfdhmbaaW.PrintMore
attribute [local go_sem] max2_int min2_int max_two min_two max_three min_three max_four min_four   
set_option linter.unusedVariables false
set_option linter.unusedSimpArgs false
def tree_Get.l0:Nat→List (S51)→List ByteArray→Int→Int→Option ((List (S51)) × Bool)
 | 0,_,_,_,_=>none
 | k+1,x0,x10,x11,x12=>if x12 < x11 then (if 0≤x12 then (if x12 < (x10.length:Int) then ((tree_find.f x0 (rdOf ByteArray.empty x10 x12)).bind fun bt560=>(if bt560.2=true then (if 0≤bt560.1 then (if bt560.1 < (x0.length:Int) then (tree_Get.l0 k ((rd_T51 x0 bt560.1).f1) x10 x11 (wrap64 (x12+1))) else (none)) else (none)) else (some (([]:List (S51)),false)))) else (none)) else (none)) else ((tree_own.f k x0).bind fun t563=>(some (t563,true)))
def tree_Get.f (k:Nat) (l0:List (S51)) (l1:List ByteArray):Option ((List (S51)) × Bool):=tree_Get.l0 k l0 l1 (l1.length:Int) 0
theorem tree_Get.mono_l:∀ k,(∀ y0 y1 y2 y3,LeO (tree_Get.l0 k y0 y1 y2 y3) (tree_Get.l0 (k+1) y0 y1 y2 y3))
 | 0=>fun _ _ _ _ r h=>by simp [tree_Get.l0] at h
 | k+1=>by
  have ih0:=tree_Get.mono_l k
  ·intro y0 y1 y2 y3
   unfold tree_Get.l0
   repeat' first
   | (with_reducible exact ih0 _ _ _ _)
   | (with_reducible exact tree_own.mono _ _)
   | (with_reducible exact LeO.refl _)
   | (with_reducible exact LeO.none _)
   | (with_reducible refine LeO.ite ?_ ?_)
   | (with_reducible refine LeO.bind ?_ (fun _=>?_))
   | exact ih0 _ _ _ _
   | exact tree_own.mono _ _
   | exact LeO.none _
   | refine LeO.ite ?_ ?_
   | refine LeO.bind ?_ (fun _=>?_)
theorem tree_Get.mono:∀ a0 a1 k,LeO (tree_Get.f k a0 a1) (tree_Get.f (k+1) a0 a1):=by
 intro a0 a1 k
 have ih0:=tree_Get.mono_l k
 unfold tree_Get.f
 repeat' first
   | (with_reducible exact ih0 _ _ _ _)
   | (with_reducible exact tree_own.mono _ _)
   | (with_reducible exact LeO.refl _)
   | (with_reducible exact LeO.none _)
   | (with_reducible refine LeO.ite ?_ ?_)
   | (with_reducible refine LeO.bind ?_ (fun _=>?_))
   | exact ih0 _ _ _ _
   | exact tree_own.mono _ _
   | exact LeO.none _
   | refine LeO.ite ?_ ?_
   | refine LeO.bind ?_ (fun _=>?_)
set_option maxHeartbeats 8000000 in
set_option maxRecDepth 100000 in
theorem tree_Get.calls (k:Nat) (P0_:Nat→Prop) (A0:Option Addr) (c0:Nat) (l0:List (S51)) (A1:Option Addr) (c1:Nat) (l1:List ByteArray) (r1:List (S51)) (r2:Bool) (w:World) (hs0:Kd.V k51 51 w w.heap.size (fun k_=>P0_ k_) (.slice A0 l0.length c0) l0) (hr1:Kd.C Kd.string w A1 l1.length l1) (hc1:l1.length≤c1) (h:tree_Get.f k l0 l1=some (r1,r2)) :
  Calls Try.prog 47 #[.slice A0 l0.length c0,.slice A1 l1.length c1] w fun e w'=>∃ v0_:Value,e=.returned (.tuple #[v0_,.bool r2])∧Kd.N k51 51 w' w.heap.size (fun k_=>(P0_ k_∨w.heap.size≤k_)) v0_ r1∧Below w.heap.size w w':=by
 have HO0:=Aside0.mk (show Kd.V k51 51 w w.heap.size (fun k_=>(P0_ k_∨w.heap.size≤k_)) (.slice A0 l0.length c0) l0 from Kd.V_mono hs0 (fun k_ hk=>.inl hk))
 have HR1:=Aside0.mk hr1
 have HC1:=Aside0.mk hc1
 clear hr1 hc1
 have HB:=Aside0.mk (Below.refl w.heap.size w)
 have H:(tree_Get.l0 k l0 l1 (l1.length:Int) 0)=some (r1,r2):=h
 clear h
 have H':=Aside0.mk H
 clear H
 go_enter Try.func47,Try.ntmps47
 go_wp2
 go_loopg [0,12] k (fun kq v0 v12 w'=>∃ (x0_1:List (S51)) (x12_1:Int),v12=.int .i64 x12_1∧Aside0 (tree_Get.l0 kq x0_1 l1 (l1.length:Int) x12_1=some (r1,r2))∧Aside0 (kq≤k)∧Aside0 (Kd.V k51 51 w' w.heap.size (fun k_=>(P0_ k_∨w.heap.size≤k_)) v0 x0_1)∧Aside0 (Below w.heap.size w w'))
 case atStart=>exact ⟨(l0),(0),(by first|rfl|(simp;done)|(simp [*];done)),H',⟨Nat.le_refl _⟩,⟨by (with_reducible repeat (first|apply vA_|apply vN_|apply vD_));exact HO0.out⟩,⟨by repeat (first|(with_reducible first|exact HB.out|apply bA_|apply bN_|apply bD_)|exact HB.out)⟩⟩
 case round =>
  clear H'
  try clear c1
  try clear p2
  obtain ⟨x0_1,x12_1,rfl,HA,HK1,HO_0,HB⟩:=hrel
  cases gk with
  | zero=>exact absurd HA.out (by simp [tree_Get.l0])
  | succ k1 =>
   have H:=HA.out
   clear HA
   simp only [tree_Get.l0] at H
   by_cases c3:x12_1 < (l1.length:Int)
   ·rw [if_pos c3] at H
    have c3b0:decide (x12_1 < (l1.length:Int))=true:=decide_eq_true c3
    clear c3
    by_cases c4:0≤x12_1
    ·rw [if_pos c4] at H
     have c4b0:decide (0≤x12_1)=true:=decide_eq_true c4
     clear c4
     by_cases c5:x12_1 < (l1.length:Int)
     ·rw [if_pos c5] at H
      have c5b0:decide (x12_1 < (l1.length:Int))=true:=decide_eq_true c5
      clear c5
      replace H:=Option.bind_eq_some_iff.mp H
      obtain ⟨⟨t560,t561⟩,A60,H⟩:=H
      replace H:(if t561=true then (if 0≤t560 then (if t560 < (x0_1.length:Int) then (tree_Get.l0 k1 ((rd_T51 x0_1 t560).f1) l1 (l1.length:Int) (wrap64 (x12_1+1))) else (none)) else (none)) else (some (([]:List (S51)),false)))=some (r1,r2):=H
      have A6:=Aside0.mk A60
      clear A60
      by_cases c7:t561=true
      ·subst c7
       have H1:(if 0≤t560 then (if t560 < (x0_1.length:Int) then (tree_Get.l0 k1 ((rd_T51 x0_1 t560).f1) l1 (l1.length:Int) (wrap64 (x12_1+1))) else (none)) else (none))=some (r1,r2):=by rw [if_pos rfl] at H;exact H
       clear H
       have H:=H1
       clear H1
       by_cases c8:0≤t560
       ·rw [if_pos c8] at H
        have c8b0:decide (0≤t560)=true:=decide_eq_true c8
        clear c8
        by_cases c9:t560 < (x0_1.length:Int)
        ·rw [if_pos c9] at H
         have c9b0:decide (t560 < (x0_1.length:Int))=true:=decide_eq_true c9
         clear c9
         have H':=Aside0.mk H
         clear H
         have p559:0≤(x12_1:Int):=of_decide_eq_true (by first|(with_reducible assumption)|assumption)
         have q559:x12_1 < (l1.length:Int):=of_decide_eq_true (by first|(with_reducible assumption)|assumption)
         obtain ⟨ad559,e559,hx559_0⟩:=Kd.at_string HR1.out x12_1 p559 q559
         cases e559
         replace hx559_0:=(HB.out.cell (World.block_lt_of_cell? w _ hx559_0)).trans hx559_0
         replace p559:=eq_true p559
         replace q559:=eq_true q559
         obtain ⟨Ao10,co10,eo10⟩:=Kd.V_slice HO_0.out
         subst eo10
         go_wp2_with (first|((with_reducible refine gate_callee (f:=59) rfl ?_);refine goesL_ (some 19) rfl rfl Try.func59 (by kernel_rfl) rfl #[.slice Ao10 x0_1.length co10,.string (rdOf ByteArray.empty l1 x12_1)] rfl (by (try simp only [List.map_toArray,List.map_cons,List.map_nil]);first|done|rfl|(simp only [List.length_drop,List.length_take];rfl)) ?_;(with_reducible refine (tree_find.calls _ _ x0_1 (rdOf ByteArray.empty l1 x12_1) t560 true _ ?side1 ?side2 A6.out).mono ?_);(case side1=>repeat (first|exact (Kd.V_reads' HO_0.out).2.2|(with_reducible refine cA_ ?_ _)|(with_reducible refine cN_ ?_ _)|(with_reducible refine cD_ ?_)));(case side2=>exact (Kd.V_reads' HO_0.out).2.1);rintro e w11 ⟨rfl,hb⟩;refine ⟨_,rfl,?_⟩;have n0_:=Aside0.mk (Kd.V_below (by (with_reducible repeat (first|apply vA_|apply vN_|apply vD_));exact HO_0.out) hb);have n1_:=Aside0.mk (below_step (by repeat (first|(with_reducible first|exact HB.out|apply bA_|apply bN_|apply bD_)|exact HB.out)) hb);clear HO_0;clear HB;have HO_0:=n0_;have HB:=n1_;clear n0_ n1_;(try clear hb);(try clear hb2);(try clear hk);(try clear hi);have p562:0≤(t560:Int):=of_decide_eq_true (by first|(with_reducible assumption)|assumption);have q562:t560 < (x0_1.length:Int):=of_decide_eq_true (by first|(with_reducible assumption)|assumption);obtain ⟨ad562,A562_1,c562_1,e562,hx562_0,hx562_1,hl562_1,hi562_1⟩:=at_T51 (Kd.V_reads' HO_0.out).2.2 t560 p562 q562;cases e562;obtain ⟨ce562,hce562,hMe562,hcc562⟩:=Kd.V_get HO_0.out z51 t560 p562 (by first|exact q562|exact of_decide_eq_true (by first|(with_reducible assumption)|assumption)|(have e_:=(Kd.V_reads' HO_0.out).1;omega));obtain ⟨ua562_1,uc562_1,rfl,ul562_1,ge562_1⟩:=k51_openF hMe562;have hv562_1:=hcc562 1 _ rfl;rw [add_field _ _ 1 (by omega)] at hv562_1;replace hv562_1:=Option.some.inj (hv562_1.symm.trans hx562_1);injection hv562_1 with hva_ hvn_ hvc_;rw [hva_] at ge562_1;rw [hvc_] at ul562_1;have HL562_1:=Aside0.mk (show Kd.V k51 51 _ w.heap.size _ _ ((rd_T51 x0_1 t560).f1) from Kd.V_mk ul562_1 ge562_1);clear hva_ hvn_ hvc_ ge562_1 ul562_1;clear hcc562 hce562;have HR562_1:=Aside0.mk hi562_1;have HC562_1:=Aside0.mk hl562_1;clear hi562_1 hl562_1;replace p562:=eq_true p562;replace q562:=eq_true q562))
         go_roundg k1
         case measure=>have:=HK1.out;omega
         case rel=>exact ⟨((rd_T51 x0_1 t560).f1),(wrap64 (x12_1+1)),(by first|rfl|(simp;done)|(simp [*];done)),H',⟨by have:=HK1.out;omega⟩,⟨by (with_reducible repeat (first|apply vA_|apply vN_|apply vD_));exact HL562_1.out⟩,⟨by repeat (first|(with_reducible first|exact HB.out|apply bA_|apply bN_|apply bD_)|exact HB.out)⟩⟩
        ·rw [if_neg c9] at H
         exact absurd H (by simp)
       ·rw [if_neg c8] at H
        exact absurd H (by simp)
      ·replace c7:=Bool.eq_false_iff.mpr c7
       subst c7
       have H1:(some (([]:List (S51)),false))=some (r1,r2):=by rw [if_neg (show ¬ (false=true) by decide)] at H;exact H
       clear H
       have H:=H1
       clear H1
       simp only [Option.some.injEq,Prod.mk.injEq] at H
       obtain ⟨rfl,rfl⟩:=H
       have p559:0≤(x12_1:Int):=of_decide_eq_true (by first|(with_reducible assumption)|assumption)
       have q559:x12_1 < (l1.length:Int):=of_decide_eq_true (by first|(with_reducible assumption)|assumption)
       obtain ⟨ad559,e559,hx559_0⟩:=Kd.at_string HR1.out x12_1 p559 q559
       cases e559
       replace hx559_0:=(HB.out.cell (World.block_lt_of_cell? w _ hx559_0)).trans hx559_0
       replace p559:=eq_true p559
       replace q559:=eq_true q559
       obtain ⟨Ao12,co12,eo12⟩:=Kd.V_slice HO_0.out
       subst eo12
       go_wp2_with (first|((with_reducible refine gate_callee (f:=59) rfl ?_);refine goesL_ (some 19) rfl rfl Try.func59 (by kernel_rfl) rfl #[.slice Ao12 x0_1.length co12,.string (rdOf ByteArray.empty l1 x12_1)] rfl (by (try simp only [List.map_toArray,List.map_cons,List.map_nil]);first|done|rfl|(simp only [List.length_drop,List.length_take];rfl)) ?_;(with_reducible refine (tree_find.calls _ _ x0_1 (rdOf ByteArray.empty l1 x12_1) t560 false _ ?side1 ?side2 A6.out).mono ?_);(case side1=>repeat (first|exact (Kd.V_reads' HO_0.out).2.2|(with_reducible refine cA_ ?_ _)|(with_reducible refine cN_ ?_ _)|(with_reducible refine cD_ ?_)));(case side2=>exact (Kd.V_reads' HO_0.out).2.1);rintro e w13 ⟨rfl,hb⟩;refine ⟨_,rfl,?_⟩;have n0_:=Aside0.mk (Kd.V_below (by (with_reducible repeat (first|apply vA_|apply vN_|apply vD_));exact HO_0.out) hb);have n1_:=Aside0.mk (below_step (by repeat (first|(with_reducible first|exact HB.out|apply bA_|apply bN_|apply bD_)|exact HB.out)) hb);clear HO_0;clear HB;have HO_0:=n0_;have HB:=n1_;clear n0_ n1_;(try clear hb);(try clear hb2);(try clear hk);(try clear hi)))
       go_ret2
       exact ⟨_,by first|rfl|(simp [errW_none,errW_some] <;> rfl)|(simp [*,errW_none,errW_some] <;> rfl),by first|exact Kd.R_nil _ _ _ _ _|exact Kd.N_nil _ _ _ _ _|exact Kd.V_nil _ _ _ _ _|exact Kd.Q_nil _ _ _ _ _|exact Kd.S_nil _ _ _ _ _,by repeat (first|(with_reducible first|exact HB.out|apply bA_|apply bN_|apply bD_)|exact HB.out)⟩
     ·rw [if_neg c5] at H
      exact absurd H (by simp)
    ·rw [if_neg c4] at H
     exact absurd H (by simp)
   ·rw [if_neg c3] at H
    have c3b0:decide (x12_1 < (l1.length:Int))=false:=decide_eq_false c3
    clear c3
    replace H:=Option.bind_eq_some_iff.mp H
    obtain ⟨t563,A140,H⟩:=H
    replace H:(some (t563,true))=some (r1,r2):=H
    have A14:=Aside0.mk A140
    clear A140
    simp only [Option.some.injEq,Prod.mk.injEq] at H
    obtain ⟨rfl,rfl⟩:=H
    obtain ⟨Ao15,co15,eo15⟩:=Kd.V_slice HO_0.out
    subst eo15
    go_wp2_with (first|((with_reducible refine gate_callee (f:=60) rfl ?_);refine goesL_ (some 31) rfl rfl Try.func60 (by kernel_rfl) rfl #[.slice Ao15 x0_1.length co15] rfl (by (try simp only [List.map_toArray,List.map_cons,List.map_nil]);first|done|rfl|(simp only [List.length_drop,List.length_take];rfl)) ?_;(with_reducible refine (tree_own.calls k1 _ _ x0_1 t563 _ ?side1 ?side2 A14.out).mono ?_);(case side1=>repeat (first|exact (Kd.V_reads' HO_0.out).2.2|(with_reducible refine cA_ ?_ _)|(with_reducible refine cN_ ?_ _)|(with_reducible refine cD_ ?_)));(case side2=>exact (Kd.V_reads' HO_0.out).2.1);rintro e w16 ⟨v564,rfl,ho0,hb⟩;refine ⟨_,rfl,?_⟩;have n0_:=Aside0.mk (Kd.V_elder' (by (with_reducible repeat (first|apply vA_|apply vN_|apply vD_));exact HO_0.out) (Kd.N_base ho0) hb);have n1_:=Aside0.mk (Kd.N_lower (Kd.N_mono (ok':=fun k_=>(P0_ k_∨w.heap.size≤k_)) ho0 (fun k_ hk_=>(.inr (Nat.le_trans (below_size (by repeat (first|(with_reducible first|exact HB.out|apply bA_|apply bN_|apply bD_)|exact HB.out))) hk_)))) (below_size (by repeat (first|(with_reducible first|exact HB.out|apply bA_|apply bN_|apply bD_)|exact HB.out))));have n2_:=Aside0.mk (below_step (by repeat (first|(with_reducible first|exact HB.out|apply bA_|apply bN_|apply bD_)|exact HB.out)) hb);clear HO_0;clear HB;have HO_0:=n0_;have HO565:=n1_;have HB:=n2_;clear n0_ n1_ n2_;(try clear hb);(try clear hb2);(try clear hk);(try clear hi);(try clear ho0)))
    go_ret2
    exact ⟨_,by first|rfl|(simp [errW_none,errW_some] <;> rfl)|(simp [*,errW_none,errW_some] <;> rfl),by (with_reducible repeat (first|apply nA_|apply nN_|apply nD_));exact HO565.out,by repeat (first|(with_reducible first|exact HB.out|apply bA_|apply bN_|apply bD_)|exact HB.out)⟩
end Go.Proofs.Ytainbaehfdhmbaa.PX
set_option linter.unusedVariables false
namespace Go.Proofs.Ytainbaehfdhmbaa.PX
open Go.RowKit Go.Proofs.YtainbaehfdhmbaaW.PrintWords Go.Proofs.YtainbaehfdhmbaaW.PrintLast Go.Proofs.YtainbaehfdhmbaaW.PrintMore Go.Proofs.Ytainbaehfdhmbaa
def getR:Tr→List ByteArray→Tr × Bool
 | t,[]=>(t,true)
 | t,n :: p=>match kid t n with
  | some x=>getR x p
  | none=>([],false)
theorem Ok.kidle {W d:Nat} {t x:Tr} {n:ByteArray} (h:Ok W d t) (hk:PX.kid t n=some x):Ok W d x:=by
 cases d with
 | zero=>rw [show t = [] from h] at hk;cases hk
 | succ d=>exact (h.kid hk).succ
theorem find_eq {W d:Nat} (hW:W≤1000000) {t:Tr} (n:ByteArray) (h:Ok W d t):tree_find.f t n=some (((pos t n:Nat):Int),hasAt t n):=by
 unfold tree_find.f
 have:=h.length
 rw [if_pos ⟨by omega,h.sorted⟩]
theorem get_ev {W:Nat} (hW:W≤1000000) {d:Nat} {t:Tr} (p:List ByteArray) (ht:Ok W d t) (hp:p.length≤1000000):Ev (fun k=>tree_Get.f k t p) (getR t p):=by
 have loop:∀ (m i:Nat) (t:Tr),i+m=p.length→Ok W d t→Ev (fun k=>tree_Get.l0 k t p (p.length:Int) (i:Int)) (getR t (p.drop i)):=by
  intro m
  induction m with
  | zero =>
   intro i t hi ht
   rw [List.drop_eq_nil_of_le (by omega)]
   obtain ⟨K,hK⟩:=own_ev hW ht
   refine ⟨K+1,fun k hk=>?_⟩
   obtain ⟨k,rfl⟩:∃ m,k=m+1:=⟨k - 1,by omega⟩
   replace hK:tree_own.f k t=some t:=hK k (by omega)
   show tree_Get.l0 (k+1) t p (p.length:Int) (i:Int)=_
   simp only [tree_Get.l0]
   rw [if_neg (by omega),hK,Option.bind_some]
   rfl
  | succ m ih =>
   intro i t hi ht
   have hil:i < p.length:=by omega
   rw [List.drop_eq_getElem_cons hil]
   have hf:=find_eq hW p[i] ht
   cases e:kid t p[i] with
   | none =>
    have hh:hasAt t p[i]=false:=by rw [hasAt_kid,e];rfl
    refine Ev.step (f:=fun _=>some ([],false)) (fun k=>?_) (by rw [getR,e];exact Ev.now _)
    simp only [tree_Get.l0]
    rw [if_pos (by omega),if_pos (by omega),if_pos (by omega),rdOf_nat hil,hf,Option.bind_some,hh,if_neg Bool.false_ne_true]
   | some x =>
    have hh:hasAt t p[i]=true:=by rw [hasAt_kid,e];rfl
    obtain ⟨h1,_,h3⟩:=kid_pos t p[i] x e
    refine Ev.step (f:=fun k=>tree_Get.l0 k x p (p.length:Int) ((i+1:Nat):Int)) (fun k=>?_) (by rw [getR,e];exact ih (i+1) x (by omega) (ht.kidle e))
    simp only [tree_Get.l0]
    rw [if_pos (by omega),if_pos (by omega),if_pos (by omega),rdOf_nat hil,hf,Option.bind_some,hh,if_pos rfl,if_pos (by omega),if_pos (by omega),rdT_nat h1,h3,wrap_succ (by omega)]
 exact loop p.length 0 t (by omega) ht
theorem getR_one (t:Tr) (n:ByteArray):getR t [n]=((kid t n).getD [],(kid t n).isSome):=by
 rw [getR]
 cases kid t n <;> rfl
theorem mem_namesOf {ts:List Tr} {n:ByteArray} : n ∈ namesOf ts ↔ ∃ t ∈ ts,tl n ∈ nms t:=by
 unfold namesOf
 rw [List.mem_map]
 constructor
 ·rintro ⟨s,hs,rfl⟩
  rw [tl_ba]
  exact List.mem_flatMap.1 (ofL_mem.1 hs)
 ·intro h
  exact ⟨tl n,ofL_mem.2 (List.mem_flatMap.2 h),ba_tl n⟩
theorem mem_nms {t:Tr} (ht:Sorted t) {n:ByteArray} : tl n ∈ nms t ↔ (kid t n).isSome=true:=by
 unfold nms
 rw [List.mem_map]
 constructor
 ·rintro ⟨x,hx,h⟩
  have h1:=kid_mem ht hx
  rw [tl_inj h] at h1
  rw [h1]
  rfl
 ·intro h
  obtain ⟨x,hx⟩:=Option.isSome_iff_exists.1 h
  exact ⟨_,mem_kid hx,rfl⟩
end Go.Proofs.Ytainbaehfdhmbaa.PX
namespace Go.Proofs.Ytainbaehfdhmbaa.PX
open Go.RowKit Go.Proofs.YtainbaehfdhmbaaW.PrintWords Go.Proofs.YtainbaehfdhmbaaW.PrintLast Go.Proofs.YtainbaehfdhmbaaW.PrintMore
attribute [local go_sem] max2_int min2_int max_two min_two max_three min_three max_four min_four   
set_option linter.unusedVariables false
set_option linter.unusedSimpArgs false
def merge_same.f (a0_0:Bool) (l0_1:List (S51)) (a1_0:Bool) (l1_1:List (S51)):Option (Bool):=if (a0_0 == a1_0)=true then ((tree_Same.f l0_1 l1_1).bind fun t549=>(some t549)) else (some false)
set_option maxHeartbeats 8000000 in
set_option maxRecDepth 100000 in
theorem merge_same.calls (a0_0:Bool) (A0_1:Option Addr) (c0_1:Nat) (l0_1:List (S51)) (a1_0:Bool) (A1_1:Option Addr) (c1_1:Nat) (l1_1:List (S51)) (r:Bool) (w:World) (hr0_1:Kd.C k51 w A0_1 l0_1.length l0_1) (hc0_1:l0_1.length≤c0_1) (hr1_1:Kd.C k51 w A1_1 l1_1.length l1_1) (hc1_1:l1_1.length≤c1_1) (h:merge_same.f a0_0 l0_1 a1_0 l1_1=some r) :
  Calls Try.prog 27 #[.agg #[.bool a0_0,.slice A0_1 l0_1.length c0_1],.agg #[.bool a1_0,.slice A1_1 l1_1.length c1_1]] w fun e w'=>e=.returned (.bool r)∧Below w.heap.size w w':=by
 have hu26:=Try.underlying26
 have HR0_1:=Aside0.mk hr0_1
 have HC0_1:=Aside0.mk hc0_1
 clear hr0_1 hc0_1
 have HR1_1:=Aside0.mk hr1_1
 have HC1_1:=Aside0.mk hc1_1
 clear hr1_1 hc1_1
 have HB:=Aside0.mk (Below.refl w.heap.size w)
 have H:(if (a0_0 == a1_0)=true then ((tree_Same.f l0_1 l1_1).bind fun t549=>(some t549)) else (some false))=some r:=h
 clear h
 by_cases c3:(a0_0 == a1_0)=true
 ·rw [if_pos c3] at H
  have c3b0:(a0_0 == a1_0)=true:=c3
  (try (have c3b1:decide (a0_0=a1_0)=true:=by simpa using c3))
  (try (have c3b2:(a0_0 == a1_0)=true:=by simpa using c3))
  clear c3
  replace H:=Option.bind_eq_some_iff.mp H
  obtain ⟨t549,A40,H⟩:=H
  replace H:(some t549)=some r:=H
  have A4:=Aside0.mk A40
  clear A40
  obtain rfl:=Option.some.inj H
  go_enter Try.func27,Try.ntmps27
  go_wp2_with (first|((with_reducible refine gate_dst (N:=2) rfl ?_);refine box_event ?hg (N:=2) ?hd (cs:=#[.bool a0_0,.slice A0_1 l0_1.length c0_1]) (t:=26) ?hr ?_;(case hd=>rfl);(case hg=>rfl);(case hr=>first|(go_simp;done)|(go_simp;rfl));intro gb547 hg w5 hbox hb;have n0_:=Aside0.mk (below_step (by repeat (first|(with_reducible first|exact HB.out|apply bA_|apply bN_|apply bD_)|exact HB.out)) hb);have n1_:=Aside0.mk (hbox);have n2_:=Aside0.mk ((by rw [hg];exact (below_size (by repeat (first|(with_reducible first|exact HB.out|apply bA_|apply bN_|apply bD_)|exact HB.out))):w.heap.size≤gb547));have n3_:=Aside0.mk ((by rw [hg];exact (below_size (by repeat (first|(with_reducible first|exact HB.out|apply bA_|apply bN_|apply bD_)|exact HB.out))):w.heap.size≤gb547));clear HB;have HB:=n0_;have BK547:=n1_;have GW547:=n2_;have GE547:=n3_;clear n0_ n1_ n2_ n3_;clear hb hbox hg)|((with_reducible refine gate_dst (N:=3) rfl ?_);refine box_event ?hg (N:=3) ?hd (cs:=#[.bool a1_0,.slice A1_1 l1_1.length c1_1]) (t:=26) ?hr ?_;(case hd=>rfl);(case hg=>rfl);(case hr=>first|(go_simp;done)|(go_simp;rfl));intro gb548 hg w6 hbox hb;have n0_:=Aside0.mk (blk_below (g:=gb547) (o:=.cells #[.bool a0_0,.slice A0_1 l0_1.length c0_1] 26 (0,0)) (by (with_reducible repeat (first|refine blk_drewN ?_ _|refine blk_drew ?_|refine blk_alloc ?_ _));exact BK547.out) hb);have n1_:=Aside0.mk (below_step (by repeat (first|(with_reducible first|exact HB.out|apply bA_|apply bN_|apply bD_|refine below_set ?_ GE547.out)|exact HB.out)) hb);have n2_:=Aside0.mk (hbox);have n3_:=Aside0.mk ((by rw [hg];exact (below_size (by repeat (first|(with_reducible first|exact HB.out|apply bA_|apply bN_|apply bD_|refine below_set ?_ GE547.out)|exact HB.out))):w.heap.size≤gb548));have n4_:=Aside0.mk ((by rw [hg];exact (below_size (by repeat (first|(with_reducible first|exact HB.out|apply bA_|apply bN_|apply bD_|refine below_set ?_ GE547.out)|exact HB.out))):w.heap.size≤gb548));have n5_:=Aside0.mk ((by rw [hg];exact Nat.ne_of_lt (blk_lt (g:=gb547) (o:=.cells #[.bool a0_0,.slice A0_1 l0_1.length c0_1] 26 (0,0)) (by (with_reducible repeat (first|refine blk_drewN ?_ _|refine blk_drew ?_|refine blk_alloc ?_ _));exact BK547.out)):gb547≠gb548));have n6_:=Aside0.mk ((by rw [hg];exact Nat.ne_of_gt (blk_lt (g:=gb547) (o:=.cells #[.bool a0_0,.slice A0_1 l0_1.length c0_1] 26 (0,0)) (by (with_reducible repeat (first|refine blk_drewN ?_ _|refine blk_drew ?_|refine blk_alloc ?_ _));exact BK547.out)):gb548≠gb547));clear BK547;clear HB;have BK547:=n0_;have HB:=n1_;have BK548:=n2_;have GW548:=n3_;have GE548:=n4_;have NB547_548:=n5_;have NB548_547:=n6_;clear n0_ n1_ n2_ n3_ n4_ n5_ n6_;clear hb hbox hg;have hnb7:=NB547_548.out;have hnc7:=NB548_547.out;have hcz8_0:w6.cell? ⟨gb547,0,none⟩=some (.bool a0_0):=(blk_cell BK547.out 0).trans rfl;have hcz8_1:w6.cell? ⟨gb547,1,none⟩=some (.slice A0_1 l0_1.length c0_1):=(blk_cell BK547.out 1).trans rfl;have hfz8_0:=blk_frozen BK547.out 0;have hfz8_1:=blk_frozen BK547.out 1;have hcz9_0:w6.cell? ⟨gb548,0,none⟩=some (.bool a1_0):=(blk_cell BK548.out 0).trans rfl;have hcz9_1:w6.cell? ⟨gb548,1,none⟩=some (.slice A1_1 l1_1.length c1_1):=(blk_cell BK548.out 1).trans rfl;have hfz9_0:=blk_frozen BK548.out 0;have hfz9_1:=blk_frozen BK548.out 1)|(go_at_call 33;(with_reducible refine (tree_Same.calls _ _ l0_1 _ _ l1_1 t549 _ ?side1 ?side2 ?side3 ?side4 A4.out).mono ?_);(case side1=>repeat (first|exact (Kd.C_below HR0_1.out HB.out)|(with_reducible refine cA_ ?_ _)|(with_reducible refine cN_ ?_ _)|(with_reducible refine cD_ ?_)));(case side2=>exact HC0_1.out);(case side3=>repeat (first|exact (Kd.C_below HR1_1.out HB.out)|(with_reducible refine cA_ ?_ _)|(with_reducible refine cN_ ?_ _)|(with_reducible refine cD_ ?_)));(case side4=>exact HC1_1.out);rintro e w10 ⟨rfl,hb⟩;have n0_:=Aside0.mk (blk_below (g:=gb547) (o:=.cells #[.bool a0_0,.slice A0_1 l0_1.length c0_1] 26 (0,0)) (by (with_reducible repeat (first|refine blk_drewN ?_ _|refine blk_drew ?_|refine blk_alloc ?_ _));exact BK547.out) hb);have n1_:=Aside0.mk (blk_below (g:=gb548) (o:=.cells #[.bool a1_0,.slice A1_1 l1_1.length c1_1] 26 (0,0)) (by (with_reducible repeat (first|refine blk_drewN ?_ _|refine blk_drew ?_|refine blk_alloc ?_ _));exact BK548.out) hb);have n2_:=Aside0.mk (below_step (by repeat (first|(with_reducible first|exact HB.out|apply bA_|apply bN_|apply bD_|refine below_set ?_ GE547.out|refine below_set ?_ GE548.out)|exact HB.out)) hb);clear BK547;clear BK548;clear HB;have BK547:=n0_;have BK548:=n1_;have HB:=n2_;clear n0_ n1_ n2_;(try clear hb);(try clear hb2);(try clear hk);(try clear hi)))
  go_ret
  exact ⟨by first|rfl|(simp [errW_none,errW_some] <;> rfl)|(simp [*,errW_none,errW_some] <;> rfl),by repeat (first|(with_reducible first|exact HB.out|apply bA_|apply bN_|apply bD_|refine below_set ?_ GE547.out|refine below_set ?_ GE548.out)|exact HB.out)⟩
 ·rw [if_neg c3] at H
  have c3b0:(a0_0 == a1_0)=false:=by simpa using c3
  (try (have c3b1:decide (a0_0=a1_0)=false:=by simpa using c3))
  (try (have c3b2:(a0_0 == a1_0)=false:=by simpa using c3))
  (try (have c3b3:¬ (a0_0=a1_0):=by simpa using c3))
  clear c3
  obtain rfl:=Option.some.inj H
  go_enter Try.func27,Try.ntmps27
  go_wp2_with (first|((with_reducible refine gate_dst (N:=2) rfl ?_);refine box_event ?hg (N:=2) ?hd (cs:=#[.bool a0_0,.slice A0_1 l0_1.length c0_1]) (t:=26) ?hr ?_;(case hd=>rfl);(case hg=>rfl);(case hr=>first|(go_simp;done)|(go_simp;rfl));intro gb547 hg w11 hbox hb;have n0_:=Aside0.mk (below_step (by repeat (first|(with_reducible first|exact HB.out|apply bA_|apply bN_|apply bD_)|exact HB.out)) hb);have n1_:=Aside0.mk (hbox);have n2_:=Aside0.mk ((by rw [hg];exact (below_size (by repeat (first|(with_reducible first|exact HB.out|apply bA_|apply bN_|apply bD_)|exact HB.out))):w.heap.size≤gb547));have n3_:=Aside0.mk ((by rw [hg];exact (below_size (by repeat (first|(with_reducible first|exact HB.out|apply bA_|apply bN_|apply bD_)|exact HB.out))):w.heap.size≤gb547));clear HB;have HB:=n0_;have BK547:=n1_;have GW547:=n2_;have GE547:=n3_;clear n0_ n1_ n2_ n3_;clear hb hbox hg)|((with_reducible refine gate_dst (N:=3) rfl ?_);refine box_event ?hg (N:=3) ?hd (cs:=#[.bool a1_0,.slice A1_1 l1_1.length c1_1]) (t:=26) ?hr ?_;(case hd=>rfl);(case hg=>rfl);(case hr=>first|(go_simp;done)|(go_simp;rfl));intro gb548 hg w12 hbox hb;have n0_:=Aside0.mk (blk_below (g:=gb547) (o:=.cells #[.bool a0_0,.slice A0_1 l0_1.length c0_1] 26 (0,0)) (by (with_reducible repeat (first|refine blk_drewN ?_ _|refine blk_drew ?_|refine blk_alloc ?_ _));exact BK547.out) hb);have n1_:=Aside0.mk (below_step (by repeat (first|(with_reducible first|exact HB.out|apply bA_|apply bN_|apply bD_|refine below_set ?_ GE547.out)|exact HB.out)) hb);have n2_:=Aside0.mk (hbox);have n3_:=Aside0.mk ((by rw [hg];exact (below_size (by repeat (first|(with_reducible first|exact HB.out|apply bA_|apply bN_|apply bD_|refine below_set ?_ GE547.out)|exact HB.out))):w.heap.size≤gb548));have n4_:=Aside0.mk ((by rw [hg];exact (below_size (by repeat (first|(with_reducible first|exact HB.out|apply bA_|apply bN_|apply bD_|refine below_set ?_ GE547.out)|exact HB.out))):w.heap.size≤gb548));have n5_:=Aside0.mk ((by rw [hg];exact Nat.ne_of_lt (blk_lt (g:=gb547) (o:=.cells #[.bool a0_0,.slice A0_1 l0_1.length c0_1] 26 (0,0)) (by (with_reducible repeat (first|refine blk_drewN ?_ _|refine blk_drew ?_|refine blk_alloc ?_ _));exact BK547.out)):gb547≠gb548));have n6_:=Aside0.mk ((by rw [hg];exact Nat.ne_of_gt (blk_lt (g:=gb547) (o:=.cells #[.bool a0_0,.slice A0_1 l0_1.length c0_1] 26 (0,0)) (by (with_reducible repeat (first|refine blk_drewN ?_ _|refine blk_drew ?_|refine blk_alloc ?_ _));exact BK547.out)):gb548≠gb547));clear BK547;clear HB;have BK547:=n0_;have HB:=n1_;have BK548:=n2_;have GW548:=n3_;have GE548:=n4_;have NB547_548:=n5_;have NB548_547:=n6_;clear n0_ n1_ n2_ n3_ n4_ n5_ n6_;clear hb hbox hg;have hnb13:=NB547_548.out;have hnc13:=NB548_547.out;have hcz14_0:w12.cell? ⟨gb547,0,none⟩=some (.bool a0_0):=(blk_cell BK547.out 0).trans rfl;have hcz14_1:w12.cell? ⟨gb547,1,none⟩=some (.slice A0_1 l0_1.length c0_1):=(blk_cell BK547.out 1).trans rfl;have hfz14_0:=blk_frozen BK547.out 0;have hfz14_1:=blk_frozen BK547.out 1;have hcz15_0:w12.cell? ⟨gb548,0,none⟩=some (.bool a1_0):=(blk_cell BK548.out 0).trans rfl;have hcz15_1:w12.cell? ⟨gb548,1,none⟩=some (.slice A1_1 l1_1.length c1_1):=(blk_cell BK548.out 1).trans rfl;have hfz15_0:=blk_frozen BK548.out 0;have hfz15_1:=blk_frozen BK548.out 1))
  go_ret
  exact ⟨by first|rfl|(simp [errW_none,errW_some] <;> rfl)|(simp [*,errW_none,errW_some] <;> rfl),by repeat (first|(with_reducible first|exact HB.out|apply bA_|apply bN_|apply bD_|refine below_set ?_ GE547.out|refine below_set ?_ GE548.out)|exact HB.out)⟩
end Go.Proofs.Ytainbaehfdhmbaa.PX
namespace Go.Proofs.Ytainbaehfdhmbaa.PX
open Go.RowKit Go.Proofs.YtainbaehfdhmbaaW.PrintWords Go.Proofs.YtainbaehfdhmbaaW.PrintLast Go.Proofs.YtainbaehfdhmbaaW.PrintMore
attribute [local go_sem] max2_int min2_int max_two min_two max_three min_three max_four min_four   
set_option linter.unusedVariables false
set_option linter.unusedSimpArgs false
def merge_own.f (k:Nat) (a0_0:Bool) (l0_1:List (S51)):Option (Bool × (List (S51))):=if a0_0=true then ((tree_Get.f k l0_1 ([]:List ByteArray)).bind fun bt568=>(some (true,bt568.1))) else (some (false,([]:List (S51))))
theorem merge_own.mono:∀ a0 a1 k,LeO (merge_own.f k a0 a1) (merge_own.f (k+1) a0 a1):=by
 intro a0 a1 k
 unfold merge_own.f
 repeat' first
   | (with_reducible exact tree_Get.mono _ _ _)
   | (with_reducible exact LeO.refl _)
   | (with_reducible exact LeO.none _)
   | (with_reducible refine LeO.ite ?_ ?_)
   | (with_reducible refine LeO.bind ?_ (fun _=>?_))
   | exact tree_Get.mono _ _ _
   | exact LeO.none _
   | refine LeO.ite ?_ ?_
   | refine LeO.bind ?_ (fun _=>?_)
set_option maxHeartbeats 8000000 in
set_option maxRecDepth 100000 in
theorem merge_own.calls (k:Nat) (a0_0:Bool) (P0_1_:Nat→Prop) (A0_1:Option Addr) (c0_1:Nat) (l0_1:List (S51)) (r1:Bool) (r2:List (S51)) (w:World) (hs0_1:Kd.V k51 51 w w.heap.size (fun k_=>P0_1_ k_) (.slice A0_1 l0_1.length c0_1) l0_1) (h:merge_own.f k a0_0 l0_1=some (r1,r2)) :
  Calls Try.prog 34 #[.agg #[.bool a0_0,.slice A0_1 l0_1.length c0_1]] w fun e w'=>∃ v1_:Value,e=.returned (.agg #[.bool r1,v1_])∧Kd.N k51 51 w' w.heap.size (fun k_=>(P0_1_ k_∨w.heap.size≤k_)) v1_ r2∧Below w.heap.size w w':=by
 have hu26:=Try.underlying26
 have HO0_1:=Aside0.mk (show Kd.V k51 51 w w.heap.size (fun k_=>(P0_1_ k_∨w.heap.size≤k_)) (.slice A0_1 l0_1.length c0_1) l0_1 from Kd.V_mono hs0_1 (fun k_ hk=>.inl hk))
 have HB:=Aside0.mk (Below.refl w.heap.size w)
 have H:(if a0_0=true then ((tree_Get.f k l0_1 ([]:List ByteArray)).bind fun bt568=>(some (true,bt568.1))) else (some (false,([]:List (S51)))))=some (r1,r2):=h
 clear h
 by_cases c2:a0_0=true
 ·subst c2
  have H1:((tree_Get.f k l0_1 ([]:List ByteArray)).bind fun bt568=>(some (true,bt568.1)))=some (r1,r2):=by rw [if_pos rfl] at H;exact H
  clear H
  have H:=H1
  clear H1
  replace H:=Option.bind_eq_some_iff.mp H
  obtain ⟨⟨t568,t571⟩,A30,H⟩:=H
  replace H:(some (true,t568))=some (r1,r2):=H
  have A3:=Aside0.mk A30
  clear A30
  simp only [Option.some.injEq,Prod.mk.injEq] at H
  obtain ⟨rfl,rfl⟩:=H
  go_enter Try.func34,Try.ntmps34
  go_wp2_with (first|((with_reducible refine gate_dst (N:=1) rfl ?_);refine box_event ?hg (N:=1) ?hd (cs:=#[.bool true,.slice A0_1 l0_1.length c0_1]) (t:=26) ?hr ?_;(case hd=>rfl);(case hg=>rfl);(case hr=>first|(go_simp;done)|(go_simp;rfl));intro gb566 hg w4 hbox hb;have n0_:=Aside0.mk (Kd.V_below (Kd.V_elderB (by (with_reducible repeat (first|apply vA_|apply vN_|apply vD_));exact HO0_1.out) gb566 (Nat.le_of_eq hg.symm)) hb);have n1_:=Aside0.mk (below_step (by repeat (first|(with_reducible first|exact HB.out|apply bA_|apply bN_|apply bD_)|exact HB.out)) hb);have n2_:=Aside0.mk (hbox);have n3_:=Aside0.mk ((by rw [hg];exact (below_size (by repeat (first|(with_reducible first|exact HB.out|apply bA_|apply bN_|apply bD_)|exact HB.out))):w.heap.size≤gb566));have n4_:=Aside0.mk ((by rw [hg];exact (below_size (by repeat (first|(with_reducible first|exact HB.out|apply bA_|apply bN_|apply bD_)|exact HB.out))):w.heap.size≤gb566));clear HO0_1;clear HB;have HO0_1:=n0_;have HB:=n1_;have BK566:=n2_;have GW566:=n3_;have GE566:=n4_;clear n0_ n1_ n2_ n3_ n4_;clear hb hbox hg)|((with_reducible refine gate_dst (N:=2) rfl ?_);refine box_event ?hg (N:=2) ?hd (cs:=#[.bool false,.slice none 0 0]) (t:=26) ?hr ?_;(case hd=>rfl);(case hg=>rfl);(case hr=>first|(go_simp;done)|(go_simp;rfl));intro gb567 hg w5 hbox hb;have n0_:=Aside0.mk (Kd.V_below (Kd.V_elderB (by (with_reducible repeat (first|apply vA_|apply vN_|apply vD_));exact HO0_1.out) gb567 (Nat.le_of_eq hg.symm)) hb);have n1_:=Aside0.mk (blk_below (g:=gb566) (o:=.cells #[.bool true,.slice A0_1 l0_1.length c0_1] 26 (0,0)) (by (with_reducible repeat (first|refine blk_drewN ?_ _|refine blk_drew ?_|refine blk_alloc ?_ _));exact BK566.out) hb);have n2_:=Aside0.mk (below_step (by repeat (first|(with_reducible first|exact HB.out|apply bA_|apply bN_|apply bD_|refine below_set ?_ GE566.out)|exact HB.out)) hb);have n3_:=Aside0.mk (hbox);have n4_:=Aside0.mk ((by rw [hg];exact (below_size (by repeat (first|(with_reducible first|exact HB.out|apply bA_|apply bN_|apply bD_|refine below_set ?_ GE566.out)|exact HB.out))):w.heap.size≤gb567));have n5_:=Aside0.mk ((by rw [hg];exact (below_size (by repeat (first|(with_reducible first|exact HB.out|apply bA_|apply bN_|apply bD_|refine below_set ?_ GE566.out)|exact HB.out))):w.heap.size≤gb567));have n6_:=Aside0.mk ((by rw [hg];exact Nat.ne_of_lt (blk_lt (g:=gb566) (o:=.cells #[.bool true,.slice A0_1 l0_1.length c0_1] 26 (0,0)) (by (with_reducible repeat (first|refine blk_drewN ?_ _|refine blk_drew ?_|refine blk_alloc ?_ _));exact BK566.out)):gb566≠gb567));have n7_:=Aside0.mk ((by rw [hg];exact Nat.ne_of_gt (blk_lt (g:=gb566) (o:=.cells #[.bool true,.slice A0_1 l0_1.length c0_1] 26 (0,0)) (by (with_reducible repeat (first|refine blk_drewN ?_ _|refine blk_drew ?_|refine blk_alloc ?_ _));exact BK566.out)):gb567≠gb566));clear HO0_1;clear BK566;clear HB;have HO0_1:=n0_;have BK566:=n1_;have HB:=n2_;have BK567:=n3_;have GW567:=n4_;have GE567:=n5_;have NB566_567:=n6_;have NB567_566:=n7_;clear n0_ n1_ n2_ n3_ n4_ n5_ n6_ n7_;clear hb hbox hg;have hnb6:=NB566_567.out;have hnc6:=NB567_566.out;have hcz7_0:w5.cell? ⟨gb566,0,none⟩=some (.bool true):=(blk_cell BK566.out 0).trans rfl;have hcz7_1:w5.cell? ⟨gb566,1,none⟩=some (.slice A0_1 l0_1.length c0_1):=(blk_cell BK566.out 1).trans rfl;have hfz7_0:=blk_frozen BK566.out 0;have hfz7_1:=blk_frozen BK566.out 1)|((with_reducible refine gate_callee (f:=47) rfl ?_);refine goesL_ (some 12) rfl rfl Try.func47 (by kernel_rfl) rfl #[.slice A0_1 l0_1.length c0_1,.slice none 0 0] rfl (by (try simp only [List.map_toArray,List.map_cons,List.map_nil]);first|done|rfl|(simp only [List.length_drop,List.length_take];rfl)) ?_;(refine (tree_Get.calls k (fun k_=>(((P0_1_ k_∨w.heap.size≤k_)∧k_≠gb566)∧k_≠gb567)) _ _ l0_1 _ _ ([]:List ByteArray) t568 t571 _ ?side1 ?side2 ?side3 A3.out).mono ?_);(case side1=>exact HO0_1.out);(case side2=>exact Kd.C_nil _ _);(case side3=>exact Nat.le_refl _);rintro e w8 ⟨v569,rfl,ho0,hb⟩;refine ⟨_,rfl,?_⟩;have n0_:=Aside0.mk (Kd.V_elder' (by (with_reducible repeat (first|apply vA_|apply vN_|apply vD_));exact HO0_1.out) (Kd.N_base ho0) hb);have n1_:=Aside0.mk (Kd.N_lower (Kd.N_mono (ok':=fun k_=>(P0_1_ k_∨w.heap.size≤k_)∧k_≠gb566∧k_≠gb567) ho0 (fun k_ hk_=>⟨Or.elim hk_ (fun hs_=>hs_.1.1) (fun hn_=>(.inr (Nat.le_trans (below_size (by repeat (first|(with_reducible first|exact HB.out|apply bA_|apply bN_|apply bD_|refine below_set ?_ GE566.out|refine below_set ?_ GE567.out)|exact HB.out))) hn_))),Or.elim hk_ (fun hs_=>hs_.1.2) (fun hn_=>(Kd.freshB (g:=gb566) (o:=.cells #[.bool true,.slice A0_1 l0_1.length c0_1] 26 (0,0)) (by (with_reducible repeat (first|refine blk_drewN ?_ _|refine blk_drew ?_|refine blk_alloc ?_ _));exact BK566.out) k_ hn_)),Or.elim hk_ (fun hs_=>hs_.2) (fun hn_=>(Kd.freshB (g:=gb567) (o:=.cells #[.bool false,.slice none 0 0] 26 (0,0)) (by (with_reducible repeat (first|refine blk_drewN ?_ _|refine blk_drew ?_|refine blk_alloc ?_ _));exact BK567.out) k_ hn_))⟩)) (below_size (by repeat (first|(with_reducible first|exact HB.out|apply bA_|apply bN_|apply bD_|refine below_set ?_ GE566.out|refine below_set ?_ GE567.out)|exact HB.out))));have n2_:=Aside0.mk (blk_below (g:=gb566) (o:=.cells #[.bool true,.slice A0_1 l0_1.length c0_1] 26 (0,0)) (by (with_reducible repeat (first|refine blk_drewN ?_ _|refine blk_drew ?_|refine blk_alloc ?_ _));exact BK566.out) hb);have n3_:=Aside0.mk (blk_below (g:=gb567) (o:=.cells #[.bool false,.slice none 0 0] 26 (0,0)) (by (with_reducible repeat (first|refine blk_drewN ?_ _|refine blk_drew ?_|refine blk_alloc ?_ _));exact BK567.out) hb);have n4_:=Aside0.mk (below_step (by repeat (first|(with_reducible first|exact HB.out|apply bA_|apply bN_|apply bD_|refine below_set ?_ GE566.out|refine below_set ?_ GE567.out)|exact HB.out)) hb);clear HO0_1;clear BK566;clear BK567;clear HB;have HO0_1:=n0_;have HO570:=n1_;have BK566:=n2_;have BK567:=n3_;have HB:=n4_;clear n0_ n1_ n2_ n3_ n4_;(try clear hb);(try clear hb2);(try clear hk);(try clear hi);(try clear ho0);obtain ⟨Ao9,co9,eo9⟩:=Kd.N_slice HO570.out;subst eo9;have hcz10_0:w8.cell? ⟨gb567,0,none⟩=some (.bool false):=(blk_cell BK567.out 0).trans rfl;have hcz10_1:w8.cell? ⟨gb567,1,none⟩=some (.slice none 0 0):=(blk_cell BK567.out 1).trans rfl;have hfz10_0:=blk_frozen BK567.out 0;have hfz10_1:=blk_frozen BK567.out 1))
  refine bodyPost_ret (results_cell_row rfl _ _ gb567 26 #[.bool true,.slice Ao9 t568.length co9] (0,0) _ rfl (by (with_reducible repeat (first|refine blk_drewN ?_ _|refine blk_drew ?_|refine blk_alloc ?_ _));refine blk_put (cs:=#[.bool true,.slice none 0 0]) ?_ 1 _ rfl;(with_reducible repeat (first|refine blk_drewN ?_ _|refine blk_drew ?_|refine blk_alloc ?_ _));refine blk_put (cs:=#[.bool false,.slice none 0 0]) ?_ 0 _ rfl;(with_reducible repeat (first|refine blk_drewN ?_ _|refine blk_drew ?_|refine blk_alloc ?_ _));exact BK567.out) Try.underlying26 rfl (by kernel_rfl)) rfl ?_
  exact ⟨_,by first|rfl|(simp [errW_none,errW_some] <;> rfl)|(simp [*,errW_none,errW_some] <;> rfl),by (with_reducible repeat (first|apply nA_|apply nN_|apply nD_));exact Kd.N_mono (Kd.N_far (p:=⟨gb567,1,none⟩) (Kd.N_far (p:=⟨gb567,0,none⟩) (Kd.N_mono HO570.out (fun k_ hk=>(⟨hk,hk.2.2⟩:_∧k_≠gb567))) (fun _ hk=>hk.2) (.bool true)) (fun _ hk=>hk.2) (.slice Ao9 t568.length co9)) (fun _ hk=>hk.1.1),by repeat (first|(with_reducible first|exact HB.out|apply bA_|apply bN_|apply bD_|refine below_set ?_ GE566.out|refine below_set ?_ GE567.out)|exact HB.out)⟩
 ·replace c2:=Bool.eq_false_iff.mpr c2
  subst c2
  have H1:(some (false,([]:List (S51))))=some (r1,r2):=by rw [if_neg (show ¬ (false=true) by decide)] at H;exact H
  clear H
  have H:=H1
  clear H1
  simp only [Option.some.injEq,Prod.mk.injEq] at H
  obtain ⟨rfl,rfl⟩:=H
  go_enter Try.func34,Try.ntmps34
  go_wp2_with (first|((with_reducible refine gate_dst (N:=1) rfl ?_);refine box_event ?hg (N:=1) ?hd (cs:=#[.bool false,.slice A0_1 l0_1.length c0_1]) (t:=26) ?hr ?_;(case hd=>rfl);(case hg=>rfl);(case hr=>first|(go_simp;done)|(go_simp;rfl));intro gb566 hg w11 hbox hb;have n0_:=Aside0.mk (Kd.V_below (Kd.V_elderB (by (with_reducible repeat (first|apply vA_|apply vN_|apply vD_));exact HO0_1.out) gb566 (Nat.le_of_eq hg.symm)) hb);have n1_:=Aside0.mk (below_step (by repeat (first|(with_reducible first|exact HB.out|apply bA_|apply bN_|apply bD_)|exact HB.out)) hb);have n2_:=Aside0.mk (hbox);have n3_:=Aside0.mk ((by rw [hg];exact (below_size (by repeat (first|(with_reducible first|exact HB.out|apply bA_|apply bN_|apply bD_)|exact HB.out))):w.heap.size≤gb566));have n4_:=Aside0.mk ((by rw [hg];exact (below_size (by repeat (first|(with_reducible first|exact HB.out|apply bA_|apply bN_|apply bD_)|exact HB.out))):w.heap.size≤gb566));clear HO0_1;clear HB;have HO0_1:=n0_;have HB:=n1_;have BK566:=n2_;have GW566:=n3_;have GE566:=n4_;clear n0_ n1_ n2_ n3_ n4_;clear hb hbox hg)|((with_reducible refine gate_dst (N:=2) rfl ?_);refine box_event ?hg (N:=2) ?hd (cs:=#[.bool false,.slice none 0 0]) (t:=26) ?hr ?_;(case hd=>rfl);(case hg=>rfl);(case hr=>first|(go_simp;done)|(go_simp;rfl));intro gb567 hg w12 hbox hb;have n0_:=Aside0.mk (Kd.V_below (Kd.V_elderB (by (with_reducible repeat (first|apply vA_|apply vN_|apply vD_));exact HO0_1.out) gb567 (Nat.le_of_eq hg.symm)) hb);have n1_:=Aside0.mk (blk_below (g:=gb566) (o:=.cells #[.bool false,.slice A0_1 l0_1.length c0_1] 26 (0,0)) (by (with_reducible repeat (first|refine blk_drewN ?_ _|refine blk_drew ?_|refine blk_alloc ?_ _));exact BK566.out) hb);have n2_:=Aside0.mk (below_step (by repeat (first|(with_reducible first|exact HB.out|apply bA_|apply bN_|apply bD_|refine below_set ?_ GE566.out)|exact HB.out)) hb);have n3_:=Aside0.mk (hbox);have n4_:=Aside0.mk ((by rw [hg];exact (below_size (by repeat (first|(with_reducible first|exact HB.out|apply bA_|apply bN_|apply bD_|refine below_set ?_ GE566.out)|exact HB.out))):w.heap.size≤gb567));have n5_:=Aside0.mk ((by rw [hg];exact (below_size (by repeat (first|(with_reducible first|exact HB.out|apply bA_|apply bN_|apply bD_|refine below_set ?_ GE566.out)|exact HB.out))):w.heap.size≤gb567));have n6_:=Aside0.mk ((by rw [hg];exact Nat.ne_of_lt (blk_lt (g:=gb566) (o:=.cells #[.bool false,.slice A0_1 l0_1.length c0_1] 26 (0,0)) (by (with_reducible repeat (first|refine blk_drewN ?_ _|refine blk_drew ?_|refine blk_alloc ?_ _));exact BK566.out)):gb566≠gb567));have n7_:=Aside0.mk ((by rw [hg];exact Nat.ne_of_gt (blk_lt (g:=gb566) (o:=.cells #[.bool false,.slice A0_1 l0_1.length c0_1] 26 (0,0)) (by (with_reducible repeat (first|refine blk_drewN ?_ _|refine blk_drew ?_|refine blk_alloc ?_ _));exact BK566.out)):gb567≠gb566));clear HO0_1;clear BK566;clear HB;have HO0_1:=n0_;have BK566:=n1_;have HB:=n2_;have BK567:=n3_;have GW567:=n4_;have GE567:=n5_;have NB566_567:=n6_;have NB567_566:=n7_;clear n0_ n1_ n2_ n3_ n4_ n5_ n6_ n7_;clear hb hbox hg;have hnb13:=NB566_567.out;have hnc13:=NB567_566.out;have hcz14_0:w12.cell? ⟨gb566,0,none⟩=some (.bool false):=(blk_cell BK566.out 0).trans rfl;have hcz14_1:w12.cell? ⟨gb566,1,none⟩=some (.slice A0_1 l0_1.length c0_1):=(blk_cell BK566.out 1).trans rfl;have hfz14_0:=blk_frozen BK566.out 0;have hfz14_1:=blk_frozen BK566.out 1;have hcz15_0:w12.cell? ⟨gb567,0,none⟩=some (.bool false):=(blk_cell BK567.out 0).trans rfl;have hcz15_1:w12.cell? ⟨gb567,1,none⟩=some (.slice none 0 0):=(blk_cell BK567.out 1).trans rfl;have hfz15_0:=blk_frozen BK567.out 0;have hfz15_1:=blk_frozen BK567.out 1))
  refine bodyPost_ret (results_cell_row rfl _ _ gb567 26 #[.bool false,.slice none 0 0] (0,0) _ rfl (by (with_reducible repeat (first|refine blk_drewN ?_ _|refine blk_drew ?_|refine blk_alloc ?_ _));refine blk_put (cs:=#[.bool false,.slice none 0 0]) ?_ 1 _ rfl;(with_reducible repeat (first|refine blk_drewN ?_ _|refine blk_drew ?_|refine blk_alloc ?_ _));refine blk_put (cs:=#[.bool false,.slice none 0 0]) ?_ 0 _ rfl;(with_reducible repeat (first|refine blk_drewN ?_ _|refine blk_drew ?_|refine blk_alloc ?_ _));exact BK567.out) Try.underlying26 rfl (by kernel_rfl)) rfl ?_
  exact ⟨_,by first|rfl|(simp [errW_none,errW_some] <;> rfl)|(simp [*,errW_none,errW_some] <;> rfl),by first|exact Kd.R_nil _ _ _ _ _|exact Kd.N_nil _ _ _ _ _|exact Kd.V_nil _ _ _ _ _|exact Kd.Q_nil _ _ _ _ _|exact Kd.S_nil _ _ _ _ _,by repeat (first|(with_reducible first|exact HB.out|apply bA_|apply bN_|apply bD_|refine below_set ?_ GE566.out|refine below_set ?_ GE567.out)|exact HB.out)⟩
end Go.Proofs.Ytainbaehfdhmbaa.PX
namespace Go.Proofs.Ytainbaehfdhmbaa.PX
open Go.RowKit Go.Proofs.YtainbaehfdhmbaaW.PrintWords Go.Proofs.YtainbaehfdhmbaaW.PrintLast Go.Proofs.YtainbaehfdhmbaaW.PrintMore
attribute [local go_sem] max2_int min2_int max_two min_two max_three min_three max_four min_four   
set_option linter.unusedVariables false
set_option linter.unusedSimpArgs false
def merge_all.f (k:Nat) (a0_0:Bool) (l0_1:List (S51)):Option (Bool × (List (S51)) × Bool × (List (S51)) × Bool × (List (S51))):=(merge_own.f k a0_0 l0_1).bind fun bt574=>((merge_own.f k a0_0 l0_1).bind fun bt578=>((merge_own.f k a0_0 l0_1).bind fun bt582=>(some (bt574.1,bt574.2,bt578.1,bt578.2,bt582.1,bt582.2))))
theorem merge_all.mono:∀ a0 a1 k,LeO (merge_all.f k a0 a1) (merge_all.f (k+1) a0 a1):=by
 intro a0 a1 k
 unfold merge_all.f
 repeat' first
   | (with_reducible exact merge_own.mono _ _ _)
   | (with_reducible exact LeO.refl _)
   | (with_reducible exact LeO.none _)
   | (with_reducible refine LeO.ite ?_ ?_)
   | (with_reducible refine LeO.bind ?_ (fun _=>?_))
   | exact merge_own.mono _ _ _
   | exact LeO.none _
   | refine LeO.ite ?_ ?_
   | refine LeO.bind ?_ (fun _=>?_)
def merge_all.T1:Bool × List (List Nat × List Nat):=(true,[([],[]),([0],[0]),([],[]),([2,1],[2]),([],[]),([4,3],[4]),([1,3,5],[1,3,5]),([6,5,0,1,2,3,4,5,6],[6])])
def merge_all.B1:List Nat:=[0,1,0,7,0,31,63,127]
theorem merge_all.tab1:rtab .any (opsOf Try.f28 1)=merge_all.T1:=by kernel_rfl
theorem merge_all.bits1:waitsOk merge_all.T1.2 merge_all.B1=true:=by kernel_rfl
set_option maxHeartbeats 8000000 in
set_option maxRecDepth 100000 in
theorem merge_all.calls (k:Nat) (a0_0:Bool) (P0_1_:Nat→Prop) (A0_1:Option Addr) (c0_1:Nat) (l0_1:List (S51)) (r1:Bool) (r2:List (S51)) (r3:Bool) (r4:List (S51)) (r5:Bool) (r6:List (S51)) (w:World) (hs0_1:Kd.V k51 51 w w.heap.size (fun k_=>P0_1_ k_) (.slice A0_1 l0_1.length c0_1) l0_1) (h:merge_all.f k a0_0 l0_1=some (r1,r2,r3,r4,r5,r6)) :
  Calls Try.prog 28 #[.agg #[.bool a0_0,.slice A0_1 l0_1.length c0_1]] w fun e w'=>∃ v1_ v3_ v5_:Value,e=.returned (.agg #[.bool r1,v1_,.bool r3,v3_,.bool r5,v5_])∧Kd.N k51 51 w' w.heap.size (fun k_=>(P0_1_ k_∨w.heap.size≤k_)∧some k_≠(v3_:Value).ownBlock∧some k_≠(v5_:Value).ownBlock) v1_ r2∧Kd.N k51 51 w' w.heap.size (fun k_=>(P0_1_ k_∨w.heap.size≤k_)∧some k_≠(v1_:Value).ownBlock∧some k_≠(v5_:Value).ownBlock) v3_ r4∧Kd.N k51 51 w' w.heap.size (fun k_=>(P0_1_ k_∨w.heap.size≤k_)∧some k_≠(v1_:Value).ownBlock∧some k_≠(v3_:Value).ownBlock) v5_ r6∧Below w.heap.size w w':=by
 have hu26:=Try.underlying26
 have hu65:=Try.underlying65
 have HO0_1:=Aside0.mk (show Kd.V k51 51 w w.heap.size (fun k_=>(P0_1_ k_∨w.heap.size≤k_)) (.slice A0_1 l0_1.length c0_1) l0_1 from Kd.V_mono hs0_1 (fun k_ hk=>.inl hk))
 have HB:=Aside0.mk (Below.refl w.heap.size w)
 have H:((merge_own.f k a0_0 l0_1).bind fun bt574=>((merge_own.f k a0_0 l0_1).bind fun bt578=>((merge_own.f k a0_0 l0_1).bind fun bt582=>(some (bt574.1,bt574.2,bt578.1,bt578.2,bt582.1,bt582.2)))))=some (r1,r2,r3,r4,r5,r6):=h
 clear h
 replace H:=Option.bind_eq_some_iff.mp H
 obtain ⟨⟨t574,t575⟩,A20,H⟩:=H
 replace H:((merge_own.f k a0_0 l0_1).bind fun bt578=>((merge_own.f k a0_0 l0_1).bind fun bt582=>(some (t574,t575,bt578.1,bt578.2,bt582.1,bt582.2))))=some (r1,r2,r3,r4,r5,r6):=H
 have A2:=Aside0.mk A20
 clear A20
 replace H:=Option.bind_eq_some_iff.mp H
 obtain ⟨⟨t578,t579⟩,A30,H⟩:=H
 replace H:((merge_own.f k a0_0 l0_1).bind fun bt582=>(some (t574,t575,t578,t579,bt582.1,bt582.2)))=some (r1,r2,r3,r4,r5,r6):=H
 have A3:=Aside0.mk A30
 clear A30
 replace H:=Option.bind_eq_some_iff.mp H
 obtain ⟨⟨t582,t583⟩,A40,H⟩:=H
 replace H:(some (t574,t575,t578,t579,t582,t583))=some (r1,r2,r3,r4,r5,r6):=H
 have A4:=Aside0.mk A40
 clear A40
 simp only [Option.some.injEq,Prod.mk.injEq] at H
 obtain ⟨rfl,rfl,rfl,rfl,rfl,rfl⟩:=H
 go_enter Try.func28,Try.ntmps28
 try go_wp2_with (first|((with_reducible refine gate_dst (N:=1) rfl ?_);refine box_event ?hg (N:=1) ?hd (cs:=#[.bool a0_0,.slice A0_1 l0_1.length c0_1]) (t:=26) ?hr ?_;(case hd=>rfl);(case hg=>rfl);(case hr=>first|(go_simp;done)|(go_simp;rfl));intro gb572 hg w5 hbox hb;have n0_:=Aside0.mk (Kd.V_below (Kd.V_elderB (by (with_reducible repeat (first|apply vA_|apply vN_|apply vD_));exact HO0_1.out) gb572 (Nat.le_of_eq hg.symm)) hb);have n1_:=Aside0.mk (below_step (by repeat (first|(with_reducible first|exact HB.out|apply bA_|apply bN_|apply bD_)|exact HB.out)) hb);have n2_:=Aside0.mk (hbox);have n3_:=Aside0.mk ((by rw [hg];exact (below_size (by repeat (first|(with_reducible first|exact HB.out|apply bA_|apply bN_|apply bD_)|exact HB.out))):w.heap.size≤gb572));have n4_:=Aside0.mk ((by rw [hg];exact (below_size (by repeat (first|(with_reducible first|exact HB.out|apply bA_|apply bN_|apply bD_)|exact HB.out))):w.heap.size≤gb572));clear HO0_1;clear HB;have HO0_1:=n0_;have HB:=n1_;have BK572:=n2_;have GW572:=n3_;have GE572:=n4_;clear n0_ n1_ n2_ n3_ n4_;clear hb hbox hg)|((with_reducible refine gate_dst (N:=2) rfl ?_);refine box_event ?hg (N:=2) ?hd (cs:=#[.bool false,.slice none 0 0,.bool false,.slice none 0 0,.bool false,.slice none 0 0]) (t:=65) ?hr ?_;(case hd=>rfl);(case hg=>rfl);(case hr=>first|(go_simp;done)|(go_simp;rfl));intro gb573 hg w6 hbox hb;have n0_:=Aside0.mk (Kd.V_below (Kd.V_elderB (by (with_reducible repeat (first|apply vA_|apply vN_|apply vD_));exact HO0_1.out) gb573 (Nat.le_of_eq hg.symm)) hb);have n1_:=Aside0.mk (blk_below (g:=gb572) (o:=.cells #[.bool a0_0,.slice A0_1 l0_1.length c0_1] 26 (0,0)) (by (with_reducible repeat (first|refine blk_drewN ?_ _|refine blk_drew ?_|refine blk_alloc ?_ _));exact BK572.out) hb);have n2_:=Aside0.mk (below_step (by repeat (first|(with_reducible first|exact HB.out|apply bA_|apply bN_|apply bD_|refine below_set ?_ GE572.out)|exact HB.out)) hb);have n3_:=Aside0.mk (hbox);have n4_:=Aside0.mk ((by rw [hg];exact (below_size (by repeat (first|(with_reducible first|exact HB.out|apply bA_|apply bN_|apply bD_|refine below_set ?_ GE572.out)|exact HB.out))):w.heap.size≤gb573));have n5_:=Aside0.mk ((by rw [hg];exact (below_size (by repeat (first|(with_reducible first|exact HB.out|apply bA_|apply bN_|apply bD_|refine below_set ?_ GE572.out)|exact HB.out))):w.heap.size≤gb573));have n6_:=Aside0.mk ((by rw [hg];exact Nat.ne_of_lt (blk_lt (g:=gb572) (o:=.cells #[.bool a0_0,.slice A0_1 l0_1.length c0_1] 26 (0,0)) (by (with_reducible repeat (first|refine blk_drewN ?_ _|refine blk_drew ?_|refine blk_alloc ?_ _));exact BK572.out)):gb572≠gb573));have n7_:=Aside0.mk ((by rw [hg];exact Nat.ne_of_gt (blk_lt (g:=gb572) (o:=.cells #[.bool a0_0,.slice A0_1 l0_1.length c0_1] 26 (0,0)) (by (with_reducible repeat (first|refine blk_drewN ?_ _|refine blk_drew ?_|refine blk_alloc ?_ _));exact BK572.out)):gb573≠gb572));clear HO0_1;clear BK572;clear HB;have HO0_1:=n0_;have BK572:=n1_;have HB:=n2_;have BK573:=n3_;have GW573:=n4_;have GE573:=n5_;have NB572_573:=n6_;have NB573_572:=n7_;clear n0_ n1_ n2_ n3_ n4_ n5_ n6_ n7_;clear hb hbox hg))
 have n0_:=Aside0.mk (vD_ HO0_1.out)
 have n1_:=Aside0.mk (blk_drew BK572.out)
 have n2_:=Aside0.mk (blk_drew BK573.out)
 have n3_:=Aside0.mk (bD_ HB.out)
 clear HO0_1
 clear BK572
 clear BK573
 clear HB
 have HO0_1:=n0_
 have BK572:=n1_
 have BK573:=n2_
 have HB:=n3_
 clear n0_ n1_ n2_ n3_
 refine start_ (n:=8) (S:=fun w'=>w'.cell? ⟨gb572,0,none⟩=some (.bool a0_0)∧w'.cell? ⟨gb572,1,none⟩=some (.slice A0_1 l0_1.length c0_1)) (ds:=[]) #[false,false,false,false,false,false,false,false] (by kernel_rfl) rfl rfl ⟨(blk_cell BK572.out 0).trans rfl,(blk_cell BK572.out 1).trans rfl⟩ (fun hHeld=>?_);refine with_tabW merge_all.tab1 merge_all.bits1 (fun HT_ HW_=>?_)
 generalize w6.drew=w7 at HO0_1 BK572 BK573 HB hHeld ⊢
 refine take_ (i:=0) (N:=some 3) (v:=?_) (a':=?_) #[true,false,false,false,false,false,false,false] rfl rfl (take_ofW HT_.out HW_.out (by kernel_rfl)) (fun _ _ _ h=>h) (Or.inl ⟨by rfl,?_⟩) hHeld ?_ ?_
 rotate_left
 ·rintro w' ⟨s0,s1⟩
  go_simp
  with_reducible rfl
 rotate_left
 ·simp only [Act.put,List.setIfInBounds_toArray,List.set_cons_zero,List.set_cons_succ,i64_w,i32_w]
  rfl
 refine take_ (i:=2) (N:=some 5) (v:=?_) (a':=?_) #[true,false,true,false,false,false,false,false] rfl rfl (take_ofW HT_.out HW_.out (by kernel_rfl)) (fun _ _ _ h=>h) (Or.inl ⟨by rfl,?_⟩) hHeld ?_ ?_
 rotate_left
 ·rintro w' ⟨s0,s1⟩
  go_simp
  with_reducible rfl
 rotate_left
 ·simp only [Act.put,List.setIfInBounds_toArray,List.set_cons_zero,List.set_cons_succ,i64_w,i32_w]
  rfl
 refine take_ (i:=4) (N:=some 7) (v:=?_) (a':=?_) #[true,false,true,false,true,false,false,false] rfl rfl (take_ofW HT_.out HW_.out (by kernel_rfl)) (fun _ _ _ h=>h) (Or.inl ⟨by rfl,?_⟩) hHeld ?_ ?_
 rotate_left
 ·rintro w' ⟨s0,s1⟩
  go_simp
  with_reducible rfl
 rotate_left
 ·simp only [Act.put,List.setIfInBounds_toArray,List.set_cons_zero,List.set_cons_succ,i64_w,i32_w]
  rfl
 refine one_ (i:=1) (N:=some 4) #[true,true,true,false,true,false,false,false] rfl rfl (one_of HT_.out (by kernel_rfl)) (by decide) (fun K hK=>?_)
 refine goes_ Try.func34 (by kernel_rfl) rfl #[.agg #[.bool a0_0,.slice A0_1 l0_1.length c0_1]] (by rfl) rfl rfl (by (try simp only [List.map_toArray,List.map_cons,List.map_nil]);first|done|rfl|(simp only [List.length_drop,List.length_take];rfl)) ?_
 with_reducible refine (merge_own.calls k a0_0 (fun k_=>(((P0_1_ k_∨w.heap.size≤k_)∧k_≠gb572)∧k_≠gb573)) _ _ l0_1 t574 t575 _ ?side1 A2.out).mono ?_
 (case side1=>exact HO0_1.out)
 rintro e w8 ⟨v576,rfl,ho0,hb⟩
 refine ⟨_,rfl,?_⟩
 have n0_:=Aside0.mk (Kd.V_elder' (by (with_reducible repeat (first|apply vA_|apply vN_|apply vD_));exact HO0_1.out) (Kd.N_base ho0) hb)
 have n1_:=Aside0.mk (Kd.N_lower (Kd.N_mono (ok':=fun k_=>(P0_1_ k_∨w.heap.size≤k_)∧k_≠gb572∧k_≠gb573) ho0 (fun k_ hk_=>⟨Or.elim hk_ (fun hs_=>hs_.1.1) (fun hn_=>(.inr (Nat.le_trans (below_size (by repeat (first|(with_reducible first|exact HB.out|apply bA_|apply bN_|apply bD_|refine below_set ?_ GE572.out|refine below_set ?_ GE573.out)|exact HB.out))) hn_))),Or.elim hk_ (fun hs_=>hs_.1.2) (fun hn_=>(Kd.freshB (g:=gb572) (o:=.cells #[.bool a0_0,.slice A0_1 l0_1.length c0_1] 26 (0,0)) (by (with_reducible repeat (first|refine blk_drewN ?_ _|refine blk_drew ?_|refine blk_alloc ?_ _));exact BK572.out) k_ hn_)),Or.elim hk_ (fun hs_=>hs_.2) (fun hn_=>(Kd.freshB (g:=gb573) (o:=.cells #[.bool false,.slice none 0 0,.bool false,.slice none 0 0,.bool false,.slice none 0 0] 65 (0,0)) (by (with_reducible repeat (first|refine blk_drewN ?_ _|refine blk_drew ?_|refine blk_alloc ?_ _));exact BK573.out) k_ hn_))⟩)) (below_size (by repeat (first|(with_reducible first|exact HB.out|apply bA_|apply bN_|apply bD_|refine below_set ?_ GE572.out|refine below_set ?_ GE573.out)|exact HB.out))))
 have n2_:=Aside0.mk (blk_below (g:=gb572) (o:=.cells #[.bool a0_0,.slice A0_1 l0_1.length c0_1] 26 (0,0)) (by (with_reducible repeat (first|refine blk_drewN ?_ _|refine blk_drew ?_|refine blk_alloc ?_ _));exact BK572.out) hb)
 have n3_:=Aside0.mk (blk_below (g:=gb573) (o:=.cells #[.bool false,.slice none 0 0,.bool false,.slice none 0 0,.bool false,.slice none 0 0] 65 (0,0)) (by (with_reducible repeat (first|refine blk_drewN ?_ _|refine blk_drew ?_|refine blk_alloc ?_ _));exact BK573.out) hb)
 have n4_:=Aside0.mk (below_step (by repeat (first|(with_reducible first|exact HB.out|apply bA_|apply bN_|apply bD_|refine below_set ?_ GE572.out|refine below_set ?_ GE573.out)|exact HB.out)) hb)
 clear HO0_1
 clear BK572
 clear BK573
 clear HB
 have HO0_1:=n0_
 have HO577:=n1_
 have BK572:=n2_
 have BK573:=n3_
 have HB:=n4_
 clear n0_ n1_ n2_ n3_ n4_
 (try clear hb)
 (try clear hb2)
 (try clear hk)
 (try clear hi)
 (try clear ho0)
 refine hK.out _ _ ⟨(blk_cell BK572.out 0).trans rfl,(blk_cell BK572.out 1).trans rfl⟩ (fun hHeld=>?_)
 clear hK K
 refine norm_ (a':=?_) ?_ ?_
 rotate_left
 ·show Act.put _ (some 4) _=_
  simp only [Act.put,List.setIfInBounds_toArray,List.set_cons_zero,List.set_cons_succ,i64_w,i32_w]
  rfl
 refine one_ (i:=3) (N:=some 6) #[true,true,true,true,true,false,false,false] rfl rfl (one_of HT_.out (by kernel_rfl)) (by decide) (fun K hK=>?_)
 refine goes_ Try.func34 (by kernel_rfl) rfl #[.agg #[.bool a0_0,.slice A0_1 l0_1.length c0_1]] (by rfl) rfl rfl (by (try simp only [List.map_toArray,List.map_cons,List.map_nil]);first|done|rfl|(simp only [List.length_drop,List.length_take];rfl)) ?_
 with_reducible refine (merge_own.calls k a0_0 (fun k_=>((((P0_1_ k_∨w.heap.size≤k_)∧k_≠gb572)∧k_≠gb573)∧some k_≠(v576:Value).ownBlock)) _ _ l0_1 t578 t579 _ ?side1 A3.out).mono ?_
 (case side1=>exact HO0_1.out)
 rintro e w9 ⟨v580,rfl,ho0,hb⟩
 refine ⟨_,rfl,?_⟩
 have n0_:=Aside0.mk (Kd.V_elder' (by (with_reducible repeat (first|apply vA_|apply vN_|apply vD_));exact HO0_1.out) (Kd.N_base ho0) hb)
 have n1_:=Aside0.mk (Kd.N_elder' (by (with_reducible repeat (first|apply nA_|apply nN_|apply nD_));exact HO577.out) (Kd.N_base ho0) hb)
 have n2_:=Aside0.mk (Kd.N_lower (Kd.N_mono (ok':=fun k_=>(P0_1_ k_∨w.heap.size≤k_)∧some k_≠(v576:Value).ownBlock∧k_≠gb572∧k_≠gb573) ho0 (fun k_ hk_=>⟨Or.elim hk_ (fun hs_=>hs_.1.1.1) (fun hn_=>(.inr (Nat.le_trans (below_size (by repeat (first|(with_reducible first|exact HB.out|apply bA_|apply bN_|apply bD_|refine below_set ?_ GE572.out|refine below_set ?_ GE573.out)|exact HB.out))) hn_))),Or.elim hk_ (fun hs_=>hs_.2) (fun hn_=>(Kd.fresh' (Kd.N_lt (by (with_reducible repeat (first|apply nA_|apply nN_|apply nD_));exact HO577.out)) k_ hn_)),Or.elim hk_ (fun hs_=>hs_.1.1.2) (fun hn_=>(Kd.freshB (g:=gb572) (o:=.cells #[.bool a0_0,.slice A0_1 l0_1.length c0_1] 26 (0,0)) (by (with_reducible repeat (first|refine blk_drewN ?_ _|refine blk_drew ?_|refine blk_alloc ?_ _));exact BK572.out) k_ hn_)),Or.elim hk_ (fun hs_=>hs_.1.2) (fun hn_=>(Kd.freshB (g:=gb573) (o:=.cells #[.bool false,.slice none 0 0,.bool false,.slice none 0 0,.bool false,.slice none 0 0] 65 (0,0)) (by (with_reducible repeat (first|refine blk_drewN ?_ _|refine blk_drew ?_|refine blk_alloc ?_ _));exact BK573.out) k_ hn_))⟩)) (below_size (by repeat (first|(with_reducible first|exact HB.out|apply bA_|apply bN_|apply bD_|refine below_set ?_ GE572.out|refine below_set ?_ GE573.out)|exact HB.out))))
 have n3_:=Aside0.mk (blk_below (g:=gb572) (o:=.cells #[.bool a0_0,.slice A0_1 l0_1.length c0_1] 26 (0,0)) (by (with_reducible repeat (first|refine blk_drewN ?_ _|refine blk_drew ?_|refine blk_alloc ?_ _));exact BK572.out) hb)
 have n4_:=Aside0.mk (blk_below (g:=gb573) (o:=.cells #[.bool false,.slice none 0 0,.bool false,.slice none 0 0,.bool false,.slice none 0 0] 65 (0,0)) (by (with_reducible repeat (first|refine blk_drewN ?_ _|refine blk_drew ?_|refine blk_alloc ?_ _));exact BK573.out) hb)
 have n5_:=Aside0.mk (below_step (by repeat (first|(with_reducible first|exact HB.out|apply bA_|apply bN_|apply bD_|refine below_set ?_ GE572.out|refine below_set ?_ GE573.out)|exact HB.out)) hb)
 clear HO0_1
 clear HO577
 clear BK572
 clear BK573
 clear HB
 have HO0_1:=n0_
 have HO577:=n1_
 have HO581:=n2_
 have BK572:=n3_
 have BK573:=n4_
 have HB:=n5_
 clear n0_ n1_ n2_ n3_ n4_ n5_
 (try clear hb)
 (try clear hb2)
 (try clear hk)
 (try clear hi)
 (try clear ho0)
 refine hK.out _ _ ⟨(blk_cell BK572.out 0).trans rfl,(blk_cell BK572.out 1).trans rfl⟩ (fun hHeld=>?_)
 clear hK K
 refine norm_ (a':=?_) ?_ ?_
 rotate_left
 ·show Act.put _ (some 6) _=_
  simp only [Act.put,List.setIfInBounds_toArray,List.set_cons_zero,List.set_cons_succ,i64_w,i32_w]
  rfl
 refine one_ (i:=5) (N:=some 8) #[true,true,true,true,true,true,false,false] rfl rfl (one_of HT_.out (by kernel_rfl)) (by decide) (fun K hK=>?_)
 refine goes_ Try.func34 (by kernel_rfl) rfl #[.agg #[.bool a0_0,.slice A0_1 l0_1.length c0_1]] (by rfl) rfl rfl (by (try simp only [List.map_toArray,List.map_cons,List.map_nil]);first|done|rfl|(simp only [List.length_drop,List.length_take];rfl)) ?_
 with_reducible refine (merge_own.calls k a0_0 (fun k_=>(((((P0_1_ k_∨w.heap.size≤k_)∧k_≠gb572)∧k_≠gb573)∧some k_≠(v576:Value).ownBlock)∧some k_≠(v580:Value).ownBlock)) _ _ l0_1 t582 t583 _ ?side1 A4.out).mono ?_
 (case side1=>exact HO0_1.out)
 rintro e w10 ⟨v584,rfl,ho0,hb⟩
 refine ⟨_,rfl,?_⟩
 have n0_:=Aside0.mk (Kd.V_elder' (by (with_reducible repeat (first|apply vA_|apply vN_|apply vD_));exact HO0_1.out) (Kd.N_base ho0) hb)
 have n1_:=Aside0.mk (Kd.N_elder' (by (with_reducible repeat (first|apply nA_|apply nN_|apply nD_));exact HO577.out) (Kd.N_base ho0) hb)
 have n2_:=Aside0.mk (Kd.N_elder' (by (with_reducible repeat (first|apply nA_|apply nN_|apply nD_));exact HO581.out) (Kd.N_base ho0) hb)
 have n3_:=Aside0.mk (Kd.N_lower (Kd.N_mono (ok':=fun k_=>(P0_1_ k_∨w.heap.size≤k_)∧some k_≠(v576:Value).ownBlock∧some k_≠(v580:Value).ownBlock∧k_≠gb572∧k_≠gb573) ho0 (fun k_ hk_=>⟨Or.elim hk_ (fun hs_=>hs_.1.1.1.1) (fun hn_=>(.inr (Nat.le_trans (below_size (by repeat (first|(with_reducible first|exact HB.out|apply bA_|apply bN_|apply bD_|refine below_set ?_ GE572.out|refine below_set ?_ GE573.out)|exact HB.out))) hn_))),Or.elim hk_ (fun hs_=>hs_.1.2) (fun hn_=>(Kd.fresh' (Kd.N_lt (by (with_reducible repeat (first|apply nA_|apply nN_|apply nD_));exact HO577.out)) k_ hn_)),Or.elim hk_ (fun hs_=>hs_.2) (fun hn_=>(Kd.fresh' (Kd.N_lt (by (with_reducible repeat (first|apply nA_|apply nN_|apply nD_));exact HO581.out)) k_ hn_)),Or.elim hk_ (fun hs_=>hs_.1.1.1.2) (fun hn_=>(Kd.freshB (g:=gb572) (o:=.cells #[.bool a0_0,.slice A0_1 l0_1.length c0_1] 26 (0,0)) (by (with_reducible repeat (first|refine blk_drewN ?_ _|refine blk_drew ?_|refine blk_alloc ?_ _));exact BK572.out) k_ hn_)),Or.elim hk_ (fun hs_=>hs_.1.1.2) (fun hn_=>(Kd.freshB (g:=gb573) (o:=.cells #[.bool false,.slice none 0 0,.bool false,.slice none 0 0,.bool false,.slice none 0 0] 65 (0,0)) (by (with_reducible repeat (first|refine blk_drewN ?_ _|refine blk_drew ?_|refine blk_alloc ?_ _));exact BK573.out) k_ hn_))⟩)) (below_size (by repeat (first|(with_reducible first|exact HB.out|apply bA_|apply bN_|apply bD_|refine below_set ?_ GE572.out|refine below_set ?_ GE573.out)|exact HB.out))))
 have n4_:=Aside0.mk (blk_below (g:=gb572) (o:=.cells #[.bool a0_0,.slice A0_1 l0_1.length c0_1] 26 (0,0)) (by (with_reducible repeat (first|refine blk_drewN ?_ _|refine blk_drew ?_|refine blk_alloc ?_ _));exact BK572.out) hb)
 have n5_:=Aside0.mk (blk_below (g:=gb573) (o:=.cells #[.bool false,.slice none 0 0,.bool false,.slice none 0 0,.bool false,.slice none 0 0] 65 (0,0)) (by (with_reducible repeat (first|refine blk_drewN ?_ _|refine blk_drew ?_|refine blk_alloc ?_ _));exact BK573.out) hb)
 have n6_:=Aside0.mk (below_step (by repeat (first|(with_reducible first|exact HB.out|apply bA_|apply bN_|apply bD_|refine below_set ?_ GE572.out|refine below_set ?_ GE573.out)|exact HB.out)) hb)
 clear HO0_1
 clear HO577
 clear HO581
 clear BK572
 clear BK573
 clear HB
 have HO0_1:=n0_
 have HO577:=n1_
 have HO581:=n2_
 have HO585:=n3_
 have BK572:=n4_
 have BK573:=n5_
 have HB:=n6_
 clear n0_ n1_ n2_ n3_ n4_ n5_ n6_
 (try clear hb)
 (try clear hb2)
 (try clear hk)
 (try clear hi)
 (try clear ho0)
 obtain ⟨Ao11,co11,eo11⟩:=Kd.N_slice HO585.out
 (first|subst eo11|(injection eo11 with f1_ f2_ f3_;have f4_:=f1_.symm;have f5_:=f3_.symm;clear f1_ f2_ f3_;subst f4_;subst f5_))
 obtain ⟨Ao12,co12,eo12⟩:=Kd.N_slice HO581.out
 (first|subst eo12|(injection eo12 with f1_ f2_ f3_;have f4_:=f1_.symm;have f5_:=f3_.symm;clear f1_ f2_ f3_;subst f4_;subst f5_))
 obtain ⟨Ao13,co13,eo13⟩:=Kd.N_slice HO577.out
 (first|subst eo13|(injection eo13 with f1_ f2_ f3_;have f4_:=f1_.symm;have f5_:=f3_.symm;clear f1_ f2_ f3_;subst f4_;subst f5_))
 refine hK.out _ _ ⟨(blk_cell BK572.out 0).trans rfl,(blk_cell BK572.out 1).trans rfl⟩ (fun hHeld=>?_)
 clear hK K
 refine norm_ (a':=?_) ?_ ?_
 rotate_left
 ·show Act.put _ (some 8) _=_
  simp only [Act.put,List.setIfInBounds_toArray,List.set_cons_zero,List.set_cons_succ,i64_w,i32_w]
  rfl
 refine pure_ (i:=6) (N:=some 9) (v:=?_) (a':=?_) #[true,true,true,true,true,true,true,false] rfl rfl (any_of HT_.out (by kernel_rfl)) (fun _ _ _ h=>h) (Or.inl ⟨by rfl,?_⟩) ?_ ?_
 rotate_left
 ·intro w'
  go_simp
  with_reducible rfl
 rotate_left
 ·simp only [Act.put,List.setIfInBounds_toArray,List.set_cons_zero,List.set_cons_succ,i64_w,i32_w]
  rfl
 refine one_ (i:=7) (N:=none) #[true,true,true,true,true,true,true,true] rfl rfl (one_of HT_.out (by kernel_rfl)) (by decide) (fun K hK=>?_)
 have hs14:w10.cell? ⟨gb573,0,none⟩=some (.bool false):=(blk_cell BK573.out 0).trans rfl
 have hfs14:=blk_frozen BK573.out 0
 have hns14_0:=NB572_573.out
 have hms14_0:=NB573_572.out
 have hs15:w10.cell? ⟨gb573,1,none⟩=some (.slice none 0 0):=(blk_cell BK573.out 1).trans rfl
 have hfs15:=blk_frozen BK573.out 1
 have hns15_0:=NB572_573.out
 have hms15_0:=NB573_572.out
 have hs16:w10.cell? ⟨gb573,2,none⟩=some (.bool false):=(blk_cell BK573.out 2).trans rfl
 have hfs16:=blk_frozen BK573.out 2
 have hns16_0:=NB572_573.out
 have hms16_0:=NB573_572.out
 have hs17:w10.cell? ⟨gb573,3,none⟩=some (.slice none 0 0):=(blk_cell BK573.out 3).trans rfl
 have hfs17:=blk_frozen BK573.out 3
 have hns17_0:=NB572_573.out
 have hms17_0:=NB573_572.out
 have hs18:w10.cell? ⟨gb573,4,none⟩=some (.bool false):=(blk_cell BK573.out 4).trans rfl
 have hfs18:=blk_frozen BK573.out 4
 have hns18_0:=NB572_573.out
 have hms18_0:=NB573_572.out
 have hs19:w10.cell? ⟨gb573,5,none⟩=some (.slice none 0 0):=(blk_cell BK573.out 5).trans rfl
 have hfs19:=blk_frozen BK573.out 5
 have hns19_0:=NB572_573.out
 have hms19_0:=NB573_572.out
 refine skip_ (w1:=?_) (by rfl) rfl ?_ ?_
 rotate_left
 ·go_simp
  rfl
 refine hK.out _ _ ⟨((cell_far (p:=⟨gb573,_,none⟩) NB572_573.out _).trans (((cell_far (p:=⟨gb573,_,none⟩) NB572_573.out _).trans (((cell_far (p:=⟨gb573,_,none⟩) NB572_573.out _).trans (((cell_far (p:=⟨gb573,_,none⟩) NB572_573.out _).trans (((cell_far (p:=⟨gb573,_,none⟩) NB572_573.out _).trans (((cell_far (p:=⟨gb573,_,none⟩) NB572_573.out _).trans (hHeld.1)))))))))))),((cell_far (p:=⟨gb573,_,none⟩) NB572_573.out _).trans (((cell_far (p:=⟨gb573,_,none⟩) NB572_573.out _).trans (((cell_far (p:=⟨gb573,_,none⟩) NB572_573.out _).trans (((cell_far (p:=⟨gb573,_,none⟩) NB572_573.out _).trans (((cell_far (p:=⟨gb573,_,none⟩) NB572_573.out _).trans (((cell_far (p:=⟨gb573,_,none⟩) NB572_573.out _).trans (hHeld.2))))))))))))⟩ (fun hHeld=>?_)
 clear hK K
 refine done_ (done_of HT_.out (by kernel_rfl)) ?_
 try go_wp2
 refine bodyPost_ret (results_cell_row rfl _ _ gb573 65 #[.bool t574,.slice Ao13 t575.length co13,.bool t578,.slice Ao12 t579.length co12,.bool t582,.slice Ao11 t583.length co11] (0,0) _ rfl (by (with_reducible repeat (first|refine blk_drewN ?_ _|refine blk_drew ?_|refine blk_alloc ?_ _));refine blk_put (cs:=#[.bool t574,.slice Ao13 t575.length co13,.bool t578,.slice Ao12 t579.length co12,.bool t582,.slice none 0 0]) ?_ 5 _ rfl;(with_reducible repeat (first|refine blk_drewN ?_ _|refine blk_drew ?_|refine blk_alloc ?_ _));refine blk_put (cs:=#[.bool t574,.slice Ao13 t575.length co13,.bool t578,.slice Ao12 t579.length co12,.bool false,.slice none 0 0]) ?_ 4 _ rfl;(with_reducible repeat (first|refine blk_drewN ?_ _|refine blk_drew ?_|refine blk_alloc ?_ _));refine blk_put (cs:=#[.bool t574,.slice Ao13 t575.length co13,.bool t578,.slice none 0 0,.bool false,.slice none 0 0]) ?_ 3 _ rfl;(with_reducible repeat (first|refine blk_drewN ?_ _|refine blk_drew ?_|refine blk_alloc ?_ _));refine blk_put (cs:=#[.bool t574,.slice Ao13 t575.length co13,.bool false,.slice none 0 0,.bool false,.slice none 0 0]) ?_ 2 _ rfl;(with_reducible repeat (first|refine blk_drewN ?_ _|refine blk_drew ?_|refine blk_alloc ?_ _));refine blk_put (cs:=#[.bool t574,.slice none 0 0,.bool false,.slice none 0 0,.bool false,.slice none 0 0]) ?_ 1 _ rfl;(with_reducible repeat (first|refine blk_drewN ?_ _|refine blk_drew ?_|refine blk_alloc ?_ _));refine blk_put (cs:=#[.bool false,.slice none 0 0,.bool false,.slice none 0 0,.bool false,.slice none 0 0]) ?_ 0 _ rfl;(with_reducible repeat (first|refine blk_drewN ?_ _|refine blk_drew ?_|refine blk_alloc ?_ _));exact BK573.out) Try.underlying65 rfl (by kernel_rfl)) rfl ?_
 exact ⟨_,_,_,by first|rfl|(simp [errW_none,errW_some] <;> rfl)|(simp [*,errW_none,errW_some] <;> rfl),by (with_reducible repeat (first|apply nA_|apply nN_|apply nD_));exact Kd.N_mono (Kd.N_far (p:=⟨gb573,5,none⟩) (Kd.N_far (p:=⟨gb573,4,none⟩) (Kd.N_far (p:=⟨gb573,3,none⟩) (Kd.N_far (p:=⟨gb573,2,none⟩) (Kd.N_far (p:=⟨gb573,1,none⟩) (Kd.N_far (p:=⟨gb573,0,none⟩) (Kd.N_mono HO577.out (fun k_ hk=>(⟨hk,hk.1.1.2.2⟩:_∧k_≠gb573))) (fun _ hk=>hk.2) (.bool t574)) (fun _ hk=>hk.2) (.slice Ao13 t575.length co13)) (fun _ hk=>hk.2) (.bool t578)) (fun _ hk=>hk.2) (.slice Ao12 t579.length co12)) (fun _ hk=>hk.2) (.bool t582)) (fun _ hk=>hk.2) (.slice Ao11 t583.length co11)) (fun _ hk=>⟨hk.1.1.1.1,⟨hk.1.1.2,hk.1.2⟩⟩),by (with_reducible repeat (first|apply nA_|apply nN_|apply nD_));exact Kd.N_mono (Kd.N_far (p:=⟨gb573,5,none⟩) (Kd.N_far (p:=⟨gb573,4,none⟩) (Kd.N_far (p:=⟨gb573,3,none⟩) (Kd.N_far (p:=⟨gb573,2,none⟩) (Kd.N_far (p:=⟨gb573,1,none⟩) (Kd.N_far (p:=⟨gb573,0,none⟩) (Kd.N_mono HO581.out (fun k_ hk=>(⟨hk,hk.1.2.2.2⟩:_∧k_≠gb573))) (fun _ hk=>hk.2) (.bool t574)) (fun _ hk=>hk.2) (.slice Ao13 t575.length co13)) (fun _ hk=>hk.2) (.bool t578)) (fun _ hk=>hk.2) (.slice Ao12 t579.length co12)) (fun _ hk=>hk.2) (.bool t582)) (fun _ hk=>hk.2) (.slice Ao11 t583.length co11)) (fun _ hk=>⟨hk.1.1.1,⟨hk.1.1.2.1,hk.1.2⟩⟩),by (with_reducible repeat (first|apply nA_|apply nN_|apply nD_));exact Kd.N_mono (Kd.N_far (p:=⟨gb573,5,none⟩) (Kd.N_far (p:=⟨gb573,4,none⟩) (Kd.N_far (p:=⟨gb573,3,none⟩) (Kd.N_far (p:=⟨gb573,2,none⟩) (Kd.N_far (p:=⟨gb573,1,none⟩) (Kd.N_far (p:=⟨gb573,0,none⟩) (Kd.N_mono HO585.out (fun k_ hk=>(⟨hk,hk.2.2.2.2⟩:_∧k_≠gb573))) (fun _ hk=>hk.2) (.bool t574)) (fun _ hk=>hk.2) (.slice Ao13 t575.length co13)) (fun _ hk=>hk.2) (.bool t578)) (fun _ hk=>hk.2) (.slice Ao12 t579.length co12)) (fun _ hk=>hk.2) (.bool t582)) (fun _ hk=>hk.2) (.slice Ao11 t583.length co11)) (fun _ hk=>⟨hk.1.1,⟨hk.1.2.1,hk.1.2.2.1⟩⟩),by repeat (first|(with_reducible first|exact HB.out|apply bA_|apply bN_|apply bD_|refine below_set ?_ GE572.out|refine below_set ?_ GE573.out)|exact HB.out)⟩
end Go.Proofs.Ytainbaehfdhmbaa.PX
