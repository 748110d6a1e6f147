/- Texts on the way to 'DiffOne', one behind the other (part 1). -/
import Derived.Test.YtbhgocpenbibgaaProg
import Derived.Below
import Derived.Deep.Draws
import Derived.Deep.AppendLies
import Derived.Maps.AppendAt
import Derived.OwnWalk
import Derived.Laws.BytesArg
import Derived.Laws.MakeOwn
import Derived.Laws.OwnMore
import Derived.Deep.OwnRows
import Derived.Tactics
import Derived.Lib.ConvBytes
import Derived.Laws.Slices
import Derived.WalkKit
import Derived.KernelRfl
import Derived.RowKit3
import Derived.Deep.LoopGhost
import Derived.Deep.QuietTactic
import Derived.BigQuiet
import Derived.WideLaws
import Derived.Deep.DeepCutAuto
import Derived.Deep.CutBlock
import Derived.Deep.RegionHeld3
import Derived.Laws.Rows
import Derived.Lib.AppendStr
import Derived.ArgAppend
import Derived.Laws.IdiomCopy
import Derived.OrdersHeld
import Derived.Laws.BitsLemmas
import Derived.RowKit
import Derived.Lib.SliceRun
import Derived.Test.YtbhgocpenbibgaaWWords
import Derived.Test.YtbhgocpenbibgaaWLast
import Derived.Test.YtbhgocpenbibgaaWTab
import Derived.Test.YtbhgocpenbibgaaWQPut
import Derived.Test.YtbhgocpenbibgaaWApart
import Derived.Test.YtbhgocpenbibgaaWArr
import Derived.Test.YtbhgocpenbibgaaWZeros
import Derived.Test.YtbhgocpenbibgaaWFoot
import Derived.Test.YtbhgocpenbibgaaWKept
import Derived.Test.YtbhgocpenbibgaaWShare
import Derived.Test.YtbhgocpenbibgaaWN
import Derived.Test.YtbhgocpenbibgaaWRepsOne
import Derived.Test.YtbhgocpenbibgaaWGuard
import Derived.Test.YtbhgocpenbibgaaWNEv
import Derived.Test.YtbhgocpenbibgaaWMore
import Derived.Sort.Walk0
import Derived.Lib.SlicesCompact
import Derived.Lib.RowBridge
import Derived.Lib.Hide
import Derived.Laws.CopyOwn
import Derived.Test.YtbhgocpenbibgaaShelf
import Derived.Sort.OwnSorted
import Derived.Sort.Grow
import Derived.Lib.OwnBridge
import Derived.Handy
-- written by wip/tools/hybrid.py (over the kit's print.py, with functions proved by hand beside it) for this claim
namespace Go.Proofs.Ytbhgocpenbibgaa.PX
open Go.RowKit Go.Proofs.YtbhgocpenbibgaaW.PrintWords Go.Proofs.YtbhgocpenbibgaaW.PrintLast Go.Proofs.YtbhgocpenbibgaaW.PrintMore
attribute [local go_sem] max2_int min2_int max_two min_two max_three min_three max_four min_four   -- for this text's walks alone
set_option linter.unusedVariables false
set_option linter.unusedSimpArgs false



def errW : Option Int → Value
  | none => .nilIface
  | some c => .iface 0 (.int .i64 c)
theorem errW_none : errW none = .nilIface := rfl
theorem errW_some (c : Int) : errW (some c) = .iface 0 (.int .i64 c) := rfl

theorem info9 : (Try.prog.info? 9).map (fun i => (i.zero, i.size, i.bytes)) = some (some (.string ⟨#[]⟩), 1, 16) := by kernel_rfl
theorem info26 : (Try.prog.info? 26).map (fun i => (i.zero, i.size, i.bytes)) = some (some (.slice none 0 0), 1, 24) := by kernel_rfl
theorem info28 : (Try.prog.info? 28).map (fun i => (i.zero, i.size, i.bytes)) = some (some (.slice none 0 0), 1, 24) := by kernel_rfl
theorem info31 : (Try.prog.info? 31).map (fun i => (i.zero, i.size, i.bytes)) = some (some (.slice none 0 0), 1, 24) := by kernel_rfl
theorem info45 : (Try.prog.info? 45).map (fun i => (i.zero, i.size, i.bytes)) = some (some (.agg #[(.string ⟨#[]⟩), (.slice none 0 0)]), 2, 40) := by kernel_rfl
theorem info49 : (Try.prog.info? 49).map (fun i => (i.zero, i.size, i.bytes)) = some (some (.agg #[(.string ⟨#[]⟩), (.slice none 0 0)]), 2, 40) := by kernel_rfl
-- the values' own types
def rd_L1 (xs : List (List ByteArray)) (i : Int) : (List ByteArray) := xs.getD i.toNat ([] : List ByteArray)
theorem at_L1 {w : World} {A : Option Addr} {n : Nat} {xs : List (List ByteArray)} (h : Kd.C (Kd.slice 9 Kd.string) w A n xs) (i : Int) (h0 : 0 ≤ i) (h1 : i < n) : ∃ ad A0 c0, A = some ad ∧ w.cell? (ad.add i.toNat) = some (.slice A0 (rd_L1 xs i).length c0) ∧ (rd_L1 xs i).length ≤ c0 ∧ Kd.string.C w A0 (rd_L1 xs i).length (rd_L1 xs i) := by
  obtain ⟨ad, c, e, _, hK, hc0⟩ := Kd.C_get h ([] : List ByteArray) i h0 h1
  have hc : ∀ j u, c[j]? = some u → w.cell? (ad.add (i.toNat * 1 + j)) = some u := hc0
  obtain ⟨A0, c0, rfl, l0, g0⟩ := hK
  exact ⟨ad, A0, c0, e, by have hq := hc 0 _ rfl; rwa [Nat.mul_one, Nat.add_zero] at hq, l0, g0⟩

/-! #### struct type 45, nested in itself -/
structure S45 where
  f0 : ByteArray
  f1 : (List S45)
def z45 : S45 := ⟨(⟨#[]⟩ : ByteArray), ([] : List S45)⟩
def F45 (d : Kd S45) : Kd S45 := Kd.iso (Kd.pair Kd.string (Kd.slice 45 d)) (fun x : S45 => (x.f0, x.f1))
theorem mono45 : Kd.Mono F45 := Kd.mono_iso _ (Kd.mono_pair (Kd.mono_const _) (Kd.mono_slice 45 Kd.mono_id))
theorem sub45 : Kd.Sub F45 [45] := Kd.sub_iso _ (Kd.sub_pair (Kd.sub_const _ (by decide)) (Kd.sub_slice 45 (by decide) Kd.sub_id))
theorem sz45 : ∀ n, (Kd.upto F45 2 [45] n).sz = 2 := Kd.upto_sz (fun _ => rfl)
def k45 : Kd S45 := Kd.fix F45 2 [45] sz45 (Kd.upto_E sub45)
theorem k45_heap : Kd.Heap k45 := Kd.heap_fix (fun _ h_ => Kd.heap_iso _ (Kd.heap_pair Kd.heap_string (Kd.heap_slice 45 h_)))
theorem k45_open {w : World} {x : S45} {cs : List Value} (h : k45.K w x cs) : ∃ A1 c1, cs = [.string x.f0, .slice A1 x.f1.length c1] ∧ x.f1.length ≤ c1 ∧ k45.C w A1 x.f1.length x.f1 := by
  obtain ⟨n, h⟩ := h
  cases n with
  | zero => exact h.elim
  | succ n =>
    obtain ⟨_, _, rfl, rfl, ⟨A1, c1, rfl, l1, g1⟩⟩ := h
    exact ⟨A1, c1, rfl, l1, Kd.fix_C g1⟩
theorem k45_openM {w : World} {base : Nat} {ok : Nat → Prop} {x : S45} {cs : List Value} (h : k45.M w base ok x cs) : ∃ v1, cs = [.string x.f0, v1] ∧ k45.R 45 w base ok v1 x.f1 := by
  obtain ⟨n, h⟩ := h
  cases n with
  | zero => exact h.elim
  | succ n =>
    obtain ⟨_, _, rfl, rfl, ⟨v1, rfl, g1⟩⟩ := h
    exact ⟨v1, rfl, Kd.fix_R g1⟩
theorem k45_mk (w : World) (x : S45) {A1 : Option Addr} {c1 : Nat} (l1 : x.f1.length ≤ c1) (g1 : k45.C w A1 x.f1.length x.f1) : k45.K w x [.string x.f0, .slice A1 x.f1.length c1] := by
  obtain ⟨n1, q1⟩ := Kd.fix_C_back mono45 g1
  have r1 := Kd.upto_C_le mono45 sz45 (show n1 ≤ n1 by omega) q1
  exact ⟨n1 + 1, ⟨[.string x.f0], [.slice A1 x.f1.length c1], rfl, rfl, ⟨A1, c1, rfl, l1, r1⟩⟩⟩
theorem k45_mkM (w : World) (base : Nat) (ok : Nat → Prop) (x : S45) {v1 : Value} (g1 : k45.R 45 w base ok v1 x.f1) : k45.M w base ok x [.string x.f0, v1] := by
  obtain ⟨n1, q1⟩ := Kd.fix_R_back mono45 g1
  have r1 := Kd.upto_R_le mono45 sz45 (show n1 ≤ n1 by omega) q1
  exact ⟨n1 + 1, ⟨[.string x.f0], [v1], rfl, rfl, ⟨v1, rfl, r1⟩⟩⟩
theorem k45_openF {W : World} {ok : Nat → Prop} {x : S45} {cs : List Value} (h : Kd.FK k45 W ok x cs) : ∃ A1 c1, cs = [.string x.f0, .slice A1 x.f1.length c1] ∧ x.f1.length ≤ c1 ∧ Kd.F k45 W ok A1 x.f1.length x.f1 := by
  obtain ⟨A1, c1, rfl, l1, _⟩ := k45_open (Kd.FK_now h)
  exact ⟨A1, c1, rfl, l1, (fun W' hW => by obtain ⟨A1_, c1_, he, l1_, g1_⟩ := k45_open (h W' hW); injection (Option.some.inj (show some (Value.slice A1 x.f1.length c1) = some (Value.slice A1_ x.f1.length c1_) from congrArg (fun l => l[1]?) he)) with ha_ _ _; rw [ha_]; exact g1_)⟩
theorem k45_mkF (W : World) (ok : Nat → Prop) (x : S45) {A1 : Option Addr} {c1 : Nat} (l1 : x.f1.length ≤ c1) (g1 : Kd.F k45 W ok A1 x.f1.length x.f1) : Kd.FK k45 W ok x [.string x.f0, .slice A1 x.f1.length c1] := fun W2 hW => k45_mk W2 x l1 (g1 W2 hW)
def rd_T45 (xs : List S45) (i : Int) : S45 := xs.getD i.toNat z45
theorem at_T45 {w : World} {A : Option Addr} {n : Nat} {xs : List S45} (h : Kd.C k45 w A n xs) (i : Int) (h0 : 0 ≤ i) (h1 : i < n) : ∃ ad A1 c1, A = some ad ∧ w.cell? (ad.add (i.toNat * 2)) = some (.string (rd_T45 xs i).f0) ∧ w.cell? ⟨(ad.add (i.toNat * 2)).block, (ad.add (i.toNat * 2)).off + 1, none⟩ = some (.slice A1 (rd_T45 xs i).f1.length c1) ∧ (rd_T45 xs i).f1.length ≤ c1 ∧ k45.C w A1 (rd_T45 xs i).f1.length (rd_T45 xs i).f1 := by
  obtain ⟨ad, c, e, _, hK, hc0⟩ := Kd.C_get h z45 i h0 h1
  have hc : ∀ j u, c[j]? = some u → w.cell? (ad.add (i.toNat * 2 + j)) = some u := hc0
  obtain ⟨A1, c1, rfl, l1, g1⟩ := k45_open hK
  exact ⟨ad, A1, c1, e, hc 0 _ rfl, by rw [← add_field _ _ 1 (by omega)]; exact hc 1 _ rfl, l1, g1⟩

def rd_L3 (xs : List (List S45)) (i : Int) : (List S45) := xs.getD i.toNat ([] : List S45)
theorem at_L3 {w : World} {A : Option Addr} {n : Nat} {xs : List (List S45)} (h : Kd.C (Kd.slice 45 k45) w A n xs) (i : Int) (h0 : 0 ≤ i) (h1 : i < n) : ∃ ad A0 c0, A = some ad ∧ w.cell? (ad.add i.toNat) = some (.slice A0 (rd_L3 xs i).length c0) ∧ (rd_L3 xs i).length ≤ c0 ∧ k45.C w A0 (rd_L3 xs i).length (rd_L3 xs i) := by
  obtain ⟨ad, c, e, _, hK, hc0⟩ := Kd.C_get h ([] : List S45) i h0 h1
  have hc : ∀ j u, c[j]? = some u → w.cell? (ad.add (i.toNat * 1 + j)) = some u := hc0
  obtain ⟨A0, c0, rfl, l0, g0⟩ := hK
  exact ⟨ad, A0, c0, e, by have hq := hc 0 _ rfl; rwa [Nat.mul_one, Nat.add_zero] at hq, l0, g0⟩

def rd_L6 (xs : List (List (List ByteArray))) (i : Int) : (List (List ByteArray)) := xs.getD i.toNat ([] : List (List ByteArray))
theorem at_L6 {w : World} {A : Option Addr} {n : Nat} {xs : List (List (List ByteArray))} (h : Kd.C (Kd.slice 31 (Kd.slice 9 Kd.string)) w A n xs) (i : Int) (h0 : 0 ≤ i) (h1 : i < n) : ∃ ad A0 c0, A = some ad ∧ w.cell? (ad.add i.toNat) = some (.slice A0 (rd_L6 xs i).length c0) ∧ (rd_L6 xs i).length ≤ c0 ∧ (Kd.slice 9 Kd.string).C w A0 (rd_L6 xs i).length (rd_L6 xs i) := by
  obtain ⟨ad, c, e, _, hK, hc0⟩ := Kd.C_get h ([] : List (List ByteArray)) i h0 h1
  have hc : ∀ j u, c[j]? = some u → w.cell? (ad.add (i.toNat * 1 + j)) = some u := hc0
  obtain ⟨A0, c0, rfl, l0, g0⟩ := hK
  exact ⟨ad, A0, c0, e, by have hq := hc 0 _ rfl; rwa [Nat.mul_one, Nat.add_zero] at hq, l0, g0⟩

/-! #### struct type 49, nested in itself -/
structure S49 where
  f0 : ByteArray
  f1 : (List S49)
def z49 : S49 := ⟨(⟨#[]⟩ : ByteArray), ([] : List S49)⟩
def F49 (d : Kd S49) : Kd S49 := Kd.iso (Kd.pair Kd.string (Kd.slice 49 d)) (fun x : S49 => (x.f0, x.f1))
theorem mono49 : Kd.Mono F49 := Kd.mono_iso _ (Kd.mono_pair (Kd.mono_const _) (Kd.mono_slice 49 Kd.mono_id))
theorem sub49 : Kd.Sub F49 [49] := Kd.sub_iso _ (Kd.sub_pair (Kd.sub_const _ (by decide)) (Kd.sub_slice 49 (by decide) Kd.sub_id))
theorem sz49 : ∀ n, (Kd.upto F49 2 [49] n).sz = 2 := Kd.upto_sz (fun _ => rfl)
def k49 : Kd S49 := Kd.fix F49 2 [49] sz49 (Kd.upto_E sub49)
theorem k49_heap : Kd.Heap k49 := Kd.heap_fix (fun _ h_ => Kd.heap_iso _ (Kd.heap_pair Kd.heap_string (Kd.heap_slice 49 h_)))
theorem k49_open {w : World} {x : S49} {cs : List Value} (h : k49.K w x cs) : ∃ A1 c1, cs = [.string x.f0, .slice A1 x.f1.length c1] ∧ x.f1.length ≤ c1 ∧ k49.C w A1 x.f1.length x.f1 := by
  obtain ⟨n, h⟩ := h
  cases n with
  | zero => exact h.elim
  | succ n =>
    obtain ⟨_, _, rfl, rfl, ⟨A1, c1, rfl, l1, g1⟩⟩ := h
    exact ⟨A1, c1, rfl, l1, Kd.fix_C g1⟩
theorem k49_openM {w : World} {base : Nat} {ok : Nat → Prop} {x : S49} {cs : List Value} (h : k49.M w base ok x cs) : ∃ v1, cs = [.string x.f0, v1] ∧ k49.R 49 w base ok v1 x.f1 := by
  obtain ⟨n, h⟩ := h
  cases n with
  | zero => exact h.elim
  | succ n =>
    obtain ⟨_, _, rfl, rfl, ⟨v1, rfl, g1⟩⟩ := h
    exact ⟨v1, rfl, Kd.fix_R g1⟩
theorem k49_mk (w : World) (x : S49) {A1 : Option Addr} {c1 : Nat} (l1 : x.f1.length ≤ c1) (g1 : k49.C w A1 x.f1.length x.f1) : k49.K w x [.string x.f0, .slice A1 x.f1.length c1] := by
  obtain ⟨n1, q1⟩ := Kd.fix_C_back mono49 g1
  have r1 := Kd.upto_C_le mono49 sz49 (show n1 ≤ n1 by omega) q1
  exact ⟨n1 + 1, ⟨[.string x.f0], [.slice A1 x.f1.length c1], rfl, rfl, ⟨A1, c1, rfl, l1, r1⟩⟩⟩
theorem k49_mkM (w : World) (base : Nat) (ok : Nat → Prop) (x : S49) {v1 : Value} (g1 : k49.R 49 w base ok v1 x.f1) : k49.M w base ok x [.string x.f0, v1] := by
  obtain ⟨n1, q1⟩ := Kd.fix_R_back mono49 g1
  have r1 := Kd.upto_R_le mono49 sz49 (show n1 ≤ n1 by omega) q1
  exact ⟨n1 + 1, ⟨[.string x.f0], [v1], rfl, rfl, ⟨v1, rfl, r1⟩⟩⟩
theorem k49_openF {W : World} {ok : Nat → Prop} {x : S49} {cs : List Value} (h : Kd.FK k49 W ok x cs) : ∃ A1 c1, cs = [.string x.f0, .slice A1 x.f1.length c1] ∧ x.f1.length ≤ c1 ∧ Kd.F k49 W ok A1 x.f1.length x.f1 := by
  obtain ⟨A1, c1, rfl, l1, _⟩ := k49_open (Kd.FK_now h)
  exact ⟨A1, c1, rfl, l1, (fun W' hW => by obtain ⟨A1_, c1_, he, l1_, g1_⟩ := k49_open (h W' hW); injection (Option.some.inj (show some (Value.slice A1 x.f1.length c1) = some (Value.slice A1_ x.f1.length c1_) from congrArg (fun l => l[1]?) he)) with ha_ _ _; rw [ha_]; exact g1_)⟩
theorem k49_mkF (W : World) (ok : Nat → Prop) (x : S49) {A1 : Option Addr} {c1 : Nat} (l1 : x.f1.length ≤ c1) (g1 : Kd.F k49 W ok A1 x.f1.length x.f1) : Kd.FK k49 W ok x [.string x.f0, .slice A1 x.f1.length c1] := fun W2 hW => k49_mk W2 x l1 (g1 W2 hW)
def rd_T49 (xs : List S49) (i : Int) : S49 := xs.getD i.toNat z49
theorem at_T49 {w : World} {A : Option Addr} {n : Nat} {xs : List S49} (h : Kd.C k49 w A n xs) (i : Int) (h0 : 0 ≤ i) (h1 : i < n) : ∃ ad A1 c1, A = some ad ∧ w.cell? (ad.add (i.toNat * 2)) = some (.string (rd_T49 xs i).f0) ∧ w.cell? ⟨(ad.add (i.toNat * 2)).block, (ad.add (i.toNat * 2)).off + 1, none⟩ = some (.slice A1 (rd_T49 xs i).f1.length c1) ∧ (rd_T49 xs i).f1.length ≤ c1 ∧ k49.C w A1 (rd_T49 xs i).f1.length (rd_T49 xs i).f1 := by
  obtain ⟨ad, c, e, _, hK, hc0⟩ := Kd.C_get h z49 i h0 h1
  have hc : ∀ j u, c[j]? = some u → w.cell? (ad.add (i.toNat * 2 + j)) = some u := hc0
  obtain ⟨A1, c1, rfl, l1, g1⟩ := k49_open hK
  exact ⟨ad, A1, c1, e, hc 0 _ rfl, by rw [← add_field _ _ 1 (by omega)]; exact hc 1 _ rfl, l1, g1⟩

-- short names
abbrev bA_ := @below_alloc
abbrev bN_ := @pw_below_drewN
abbrev bD_ := @below_drew1
abbrev vA_ := @Kd.V_alloc
abbrev vN_ := @Kd.V_drewN
abbrev vD_ := @Kd.V_drew
abbrev nA_ := @Kd.N_alloc
abbrev nN_ := @Kd.N_drewN
abbrev nD_ := @Kd.N_drew
abbrev rA_ := @Kd.R_alloc
abbrev rN_ := @Kd.R_drewN
abbrev rD_ := @Kd.R_drew
abbrev cA_ := @Kd.C_alloc
abbrev cN_ := @Kd.C_drewN
abbrev cD_ := @Kd.C_drew
end Go.Proofs.Ytbhgocpenbibgaa.PX
/- Names as lists of bytes; words for the printed functions: rounds, indices. -/
set_option linter.unusedVariables false
namespace Go.Proofs.Ytbhgocpenbibgaa
open Go.RowKit
abbrev Str := List UInt8
def ba (l : Str) : ByteArray := ⟨l.toArray⟩
theorem ba_toList (l : Str) : (ba l).data.toList = l := rfl
end Go.Proofs.Ytbhgocpenbibgaa
namespace Go.Proofs.Ytbhgocpenbibgaa.PX
open Go.RowKit Go.Proofs.YtbhgocpenbibgaaW.PrintWords Go.Proofs.YtbhgocpenbibgaaW.PrintLast Go.Proofs.YtbhgocpenbibgaaW.PrintMore Go.Proofs.Ytbhgocpenbibgaa
def tl (b : ByteArray) : Str := b.data.toList
theorem ba_tl (b : ByteArray) : ba (tl b) = b := by cases b; simp [ba, tl]
theorem tl_ba (s : Str) : tl (ba s) = s := by simp [ba, tl]
theorem map_ba_tl (l : List ByteArray) : (l.map tl).map ba = l := by
  rw [List.map_map]
  have : (ba ∘ tl) = id := funext fun b => ba_tl b
  rw [this, List.map_id]
theorem map_tl_ba (l : List Str) : (l.map ba).map tl = l := by
  rw [List.map_map]
  have : (tl ∘ ba) = id := funext fun b => tl_ba b
  rw [this, List.map_id]
theorem tl_inj {a b : ByteArray} (h : tl a = tl b) : a = b := by rw [← ba_tl a, ← ba_tl b, h]
theorem toList_tl (b : ByteArray) : b.toList = tl b := ByteArray.toList_eq b
theorem less_iff (a b : ByteArray) : Op.bytesLess a.toList b.toList = true ↔ tl a < tl b := by
  rw [toList_tl, toList_tl, Proofs.bytesLess_eq, decide_eq_true_eq]
theorem less_eq (a b : ByteArray) : Op.bytesLess a.toList b.toList = decide (tl a < tl b) := by rw [toList_tl, toList_tl, Proofs.bytesLess_eq]
theorem same_eq (a b : ByteArray) : (a.toList == b.toList) = decide (a = b) := by
  rw [toList_tl, toList_tl, Bool.eq_iff_iff, beq_iff_eq, decide_eq_true_eq]
  exact ⟨tl_inj, fun h => by rw [h]⟩
noncomputable instance (s : ByteArray) (l : List ByteArray) : Decidable (s ∈ l) := Classical.propDecidable _
/-! ### Rounds -/
theorem Ev.up {α : Type} {g : Nat → Option α} {r : α} (h : Ev (fun k => g (k + 1)) r) : Ev g r := Ev.step (fun _ => rfl) h
theorem Ev.both {α : Type} {g : Nat → Option α} {r : α} (h : Ev g r) : ∃ k, g k = some r := h.rounds
theorem Ev.some_ {α : Type} (r : α) : Ev (fun _ => some r) r := Ev.now r
theorem Ev.fixed {α : Type} {x : Option α} {r : α} (h : x = some r) : Ev (fun _ => x) r := ⟨0, fun _ _ => h⟩
theorem Ev.unique {α : Type} {g : Nat → Option α} {r s : α} (h : Ev g r) (h' : Ev g s) : r = s := by
  obtain ⟨K, h⟩ := h
  obtain ⟨K', h'⟩ := h'
  have := (h (max K K') (by omega)).symm.trans (h' (max K K') (by omega))
  injection this
/-! ### Indices -/
theorem wrap_succ {i : Nat} (h : i < 4611686018427387904) : wrap64 ((i : Int) + 1) = ((i + 1 : Nat) : Int) := by unfold wrap64; omega
theorem wrap_nat {i : Nat} (h : i < 4611686018427387904) : wrap64 (i : Int) = (i : Int) := by unfold wrap64; omega
theorem wrap_id {i : Int} (h : -4611686018427387904 ≤ i) (h' : i ≤ 4611686018427387904) : wrap64 i = i := by unfold wrap64; omega
theorem rdOf_nat {xs : List ByteArray} {i : Nat} (h : i < xs.length) : rdOf ByteArray.empty xs (i : Int) = xs[i] := by
  simp [rdOf, List.getD_eq_getElem?_getD, h]
theorem rdT_nat {xs : List S45} {i : Nat} (h : i < xs.length) : rd_T45 xs (i : Int) = xs[i] := by
  simp [rd_T45, List.getD_eq_getElem?_getD, h]
/-! ### Where a name stands -/
abbrev Tr := List S45
def pos : Tr → ByteArray → Nat
  | [], _ => 0
  | y :: t, n => if tl y.f0 < tl n then pos t n + 1 else 0
def hasAt : Tr → ByteArray → Bool
  | [], _ => false
  | y :: t, n => if tl y.f0 < tl n then hasAt t n else decide (y.f0 = n)
def Sorted (t : Tr) : Prop := t.Pairwise fun x y => tl x.f0 < tl y.f0
instance (t : Tr) : Decidable (Sorted t) := by unfold Sorted; exact inferInstance
theorem pos_le : ∀ (t : Tr) (n : ByteArray), pos t n ≤ t.length
  | [], _ => Nat.le_refl _
  | y :: t, n => by
    have := pos_le t n
    unfold pos
    split <;> simp <;> omega
theorem pos_below : ∀ (t : Tr) (n : ByteArray) (i : Nat) (h : i < t.length), i < pos t n → tl (t[i]).f0 < tl n
  | y :: t, n, i, h, hi => by
    unfold pos at hi
    split at hi
    · rename_i hy
      cases i with
      | zero => exact hy
      | succ i => exact pos_below t n i (by simpa using h) (by omega)
    · omega
theorem pos_not : ∀ (t : Tr) (n : ByteArray) (h : pos t n < t.length), ¬ tl (t[pos t n]).f0 < tl n
  | y :: t, n, h => by
    by_cases hy : tl y.f0 < tl n
    · have e : pos (y :: t) n = pos t n + 1 := by rw [pos, if_pos hy]
      simp only [e, List.getElem_cons_succ]
      exact pos_not t n (by rw [e] at h; simpa using h)
    · have e : pos (y :: t) n = 0 := by rw [pos, if_neg hy]
      simp only [e, List.getElem_cons_zero]
      exact hy
theorem pos_above : ∀ (t : Tr) (n : ByteArray), Sorted t → ∀ (i : Nat) (h : i < t.length), pos t n ≤ i → ¬ tl (t[i]).f0 < tl n
  | y :: t, n, hs, i, h, hi => by
    obtain ⟨h1, h2⟩ := List.pairwise_cons.1 hs
    unfold pos at hi
    split at hi
    · cases i with
      | zero => omega
      | succ i => exact pos_above t n h2 i (by simpa using h) (by omega)
    · rename_i hy
      cases i with
      | zero => exact hy
      | succ i =>
        intro hlt
        exact hy (List.lt_trans (h1 _ (List.getElem_mem (by simpa using h))) hlt)
theorem hasAt_pos : ∀ (t : Tr) (n : ByteArray), hasAt t n = if h : pos t n < t.length then decide ((t[pos t n]).f0 = n) else false
  | [], n => by simp [hasAt, pos]
  | y :: t, n => by
    by_cases hy : tl y.f0 < tl n
    · have e1 : hasAt (y :: t) n = hasAt t n := by rw [hasAt, if_pos hy]
      have e2 : pos (y :: t) n = pos t n + 1 := by rw [pos, if_pos hy]
      rw [e1, hasAt_pos t n]
      simp only [e2, List.length_cons, Nat.add_lt_add_iff_right, List.getElem_cons_succ]
    · have e1 : hasAt (y :: t) n = decide (y.f0 = n) := by rw [hasAt, if_neg hy]
      have e2 : pos (y :: t) n = 0 := by rw [pos, if_neg hy]
      rw [e1]
      simp only [e2, List.length_cons, Nat.zero_lt_succ, dite_true, List.getElem_cons_zero]

end Go.Proofs.Ytbhgocpenbibgaa.PX
/- Trees as finite maps: rows of edges in the order of their names. Plain lists, no program. -/
set_option linter.unusedVariables false
namespace Go.Proofs.Ytbhgocpenbibgaa.PX
open Go.RowKit Go.Proofs.Ytbhgocpenbibgaa
abbrev Edge := S45
noncomputable instance : DecidableEq Edge := fun a b => Classical.propDecidable (a = b)
noncomputable instance : DecidableEq Tr := fun a b => Classical.propDecidable (a = b)
def kid : Tr → ByteArray → Option Tr
  | [], _ => none
  | y :: t, n => if tl y.f0 < tl n then kid t n else if y.f0 = n then some y.f1 else none
def withT : Tr → ByteArray → Tr → Tr
  | [], n, x => [⟨n, x⟩]
  | y :: t, n, x => if tl y.f0 < tl n then y :: withT t n x else if y.f0 = n then ⟨n, x⟩ :: t else ⟨n, x⟩ :: y :: t
def dropT : Tr → ByteArray → Tr
  | [], _ => []
  | y :: t, n => if tl y.f0 < tl n then y :: dropT t n else if y.f0 = n then t else y :: t
theorem lt_ne {x y : ByteArray} (h : tl x < tl y) : x ≠ y := fun e => by subst e; exact List.lt_irrefl _ h
theorem lt_tri (x y : ByteArray) (h : ¬ tl x < tl y) (h' : x ≠ y) : tl y < tl x := by
  have h1 : tl y ≤ tl x := List.not_lt.1 h
  exact List.not_le.1 fun h2 => h' (tl_inj (List.le_antisymm h2 h1))
theorem hasAt_kid : ∀ (t : Tr) (n : ByteArray), hasAt t n = (kid t n).isSome
  | [], _ => rfl
  | y :: t, n => by
    unfold hasAt kid
    split
    · exact hasAt_kid t n
    · split <;> simp_all
theorem kid_pos : ∀ (t : Tr) (n : ByteArray) (x : Tr), kid t n = some x → ∃ h : pos t n < t.length, t[pos t n].f0 = n ∧ t[pos t n].f1 = x
  | [], _, _, h => by cases h
  | y :: t, n, x, h => by
    by_cases hy : tl y.f0 < tl n
    · rw [kid, if_pos hy] at h
      obtain ⟨h1, h2, h3⟩ := kid_pos t n x h
      have e : pos (y :: t) n = pos t n + 1 := by rw [pos, if_pos hy]
      refine ⟨by rw [e]; simpa using h1, ?_, ?_⟩
      · simp only [e, List.getElem_cons_succ]; exact h2
      · simp only [e, List.getElem_cons_succ]; exact h3
    · have e : pos (y :: t) n = 0 := by rw [pos, if_neg hy]
      rw [kid, if_neg hy] at h
      split at h
      · rename_i hn
        injection h with h
        refine ⟨by rw [e]; simp, ?_, ?_⟩
        · simp only [e, List.getElem_cons_zero]; exact hn
        · simp only [e, List.getElem_cons_zero]; exact h
      · cases h
theorem withT_eq : ∀ (t : Tr) (n : ByteArray) (x : Tr), withT t n x = t.take (pos t n) ++ ⟨n, x⟩ :: t.drop (if hasAt t n then pos t n + 1 else pos t n)
  | [], n, x => by simp [withT, pos]
  | y :: t, n, x => by
    by_cases hy : tl y.f0 < tl n
    · have e1 : hasAt (y :: t) n = hasAt t n := by rw [hasAt, if_pos hy]
      have e2 : pos (y :: t) n = pos t n + 1 := by rw [pos, if_pos hy]
      rw [withT, if_pos hy, withT_eq t n x, e1, e2]
      cases hasAt t n <;> simp
    · have e1 : hasAt (y :: t) n = decide (y.f0 = n) := by rw [hasAt, if_neg hy]
      have e2 : pos (y :: t) n = 0 := by rw [pos, if_neg hy]
      rw [withT, if_neg hy, e1, e2]
      by_cases hn : y.f0 = n <;> simp [hn]
theorem dropT_eq : ∀ (t : Tr) (n : ByteArray), dropT t n = t.take (pos t n) ++ t.drop (if hasAt t n then pos t n + 1 else pos t n)
  | [], n => by simp [dropT]
  | y :: t, n => by
    by_cases hy : tl y.f0 < tl n
    · have e1 : hasAt (y :: t) n = hasAt t n := by rw [hasAt, if_pos hy]
      have e2 : pos (y :: t) n = pos t n + 1 := by rw [pos, if_pos hy]
      rw [dropT, if_pos hy, dropT_eq t n, e1, e2]
      cases hasAt t n <;> simp
    · have e1 : hasAt (y :: t) n = decide (y.f0 = n) := by rw [hasAt, if_neg hy]
      have e2 : pos (y :: t) n = 0 := by rw [pos, if_neg hy]
      rw [dropT, if_neg hy, e1, e2]
      by_cases hn : y.f0 = n <;> simp [hn]
theorem withT_length (t : Tr) (n : ByteArray) (x : Tr) : (withT t n x).length ≤ t.length + 1 := by
  rw [withT_eq]
  have := pos_le t n
  simp
  split <;> omega
theorem dropT_length (t : Tr) (n : ByteArray) : (dropT t n).length ≤ t.length := by
  rw [dropT_eq]
  have := pos_le t n
  simp
  split <;> omega
theorem mem_withT : ∀ {t : Tr} {n : ByteArray} {x : Tr} {z : Edge}, z ∈ withT t n x → z = ⟨n, x⟩ ∨ z ∈ t
  | [], n, x, z, h => by simpa [withT] using h
  | y :: t, n, x, z, h => by
    unfold withT at h
    split at h
    · rcases List.mem_cons.1 h with h | h
      · exact .inr (h ▸ List.mem_cons_self)
      · exact (mem_withT h).imp_right (List.mem_cons_of_mem _)
    · split at h
      · rcases List.mem_cons.1 h with h | h
        · exact .inl h
        · exact .inr (List.mem_cons_of_mem _ h)
      · rcases List.mem_cons.1 h with h | h
        · exact .inl h
        · exact .inr h
theorem mem_dropT : ∀ {t : Tr} {n : ByteArray} {z : Edge}, z ∈ dropT t n → z ∈ t
  | [], n, z, h => h
  | y :: t, n, z, h => by
    unfold dropT at h
    split at h
    · rcases List.mem_cons.1 h with h | h
      · exact h ▸ List.mem_cons_self
      · exact List.mem_cons_of_mem _ (mem_dropT h)
    · split at h
      · exact List.mem_cons_of_mem _ h
      · exact h
theorem mem_kid : ∀ {t : Tr} {n : ByteArray} {x : Tr}, kid t n = some x → (⟨n, x⟩ : Edge) ∈ t
  | [], n, x, h => by cases h
  | y :: t, n, x, h => by
    unfold kid at h
    split at h
    · exact List.mem_cons_of_mem _ (mem_kid h)
    · split at h
      · rename_i hn
        injection h with h
        have : y = ⟨n, x⟩ := by cases y; simp_all
        rw [this]
        exact List.mem_cons_self
      · cases h
theorem kid_mem : ∀ {t : Tr} (_ : Sorted t) {z : Edge}, z ∈ t → kid t z.f0 = some z.f1
  | [], _, z, h => by cases h
  | y :: t, hs, z, h => by
    obtain ⟨h1, h2⟩ := List.pairwise_cons.1 hs
    rcases List.mem_cons.1 h with h | h
    · subst h
      rw [kid, if_neg (List.lt_irrefl _), if_pos rfl]
    · rw [kid, if_pos (h1 z h)]
      exact kid_mem h2 h
theorem kid_none_of_gt : ∀ {t : Tr} {n : ByteArray}, (∀ z ∈ t, tl n < tl z.f0) → kid t n = none
  | [], _, _ => rfl
  | y :: t, n, h => by
    have hy := h y List.mem_cons_self
    rw [kid, if_neg (fun h' => List.lt_irrefl _ (List.lt_trans hy h')), if_neg (fun e => lt_ne hy e.symm)]
theorem sorted_withT : ∀ {t : Tr} {n : ByteArray} {x : Tr}, Sorted t → Sorted (withT t n x)
  | [], n, x, _ => List.pairwise_singleton _ _
  | y :: t, n, x, h => by
    obtain ⟨h1, h2⟩ := List.pairwise_cons.1 h
    unfold withT
    split
    · rename_i hy
      refine List.pairwise_cons.2 ⟨fun z hz => ?_, sorted_withT h2⟩
      rcases mem_withT hz with rfl | hz
      · exact hy
      · exact h1 z hz
    · rename_i hy
      split
      · rename_i hn
        subst hn
        exact List.pairwise_cons.2 ⟨h1, h2⟩
      · rename_i hn
        have hlt := lt_tri _ _ hy hn
        refine List.pairwise_cons.2 ⟨fun z hz => ?_, h⟩
        rcases List.mem_cons.1 hz with rfl | hz
        · exact hlt
        · exact List.lt_trans hlt (h1 z hz)
theorem sorted_dropT : ∀ {t : Tr} {n : ByteArray}, Sorted t → Sorted (dropT t n)
  | [], n, _ => List.Pairwise.nil
  | y :: t, n, h => by
    obtain ⟨h1, h2⟩ := List.pairwise_cons.1 h
    unfold dropT
    split
    · exact List.pairwise_cons.2 ⟨fun z hz => h1 z (mem_dropT hz), sorted_dropT h2⟩
    · split
      · exact h2
      · exact h
theorem kid_withT : ∀ {t : Tr} {n : ByteArray} {x : Tr}, Sorted t → ∀ m, kid (withT t n x) m = if m = n then some x else kid t m
  | [], n, x, _, m => by
    unfold withT kid
    split
    · rename_i h
      rw [if_neg (fun e => lt_ne h e.symm)]
      rfl
    · by_cases e : m = n
      · subst e; simp
      · rw [if_neg e]
        simp only
        rw [if_neg (fun e' => e e'.symm)]
  | y :: t, n, x, h, m => by
    obtain ⟨h1, h2⟩ := List.pairwise_cons.1 h
    unfold withT
    split
    · rename_i hy
      by_cases hm : tl y.f0 < tl m
      · rw [kid, if_pos hm, kid_withT h2 m, kid, if_pos hm]
      · have hne : m ≠ n := fun e => hm (e ▸ hy)
        rw [kid, if_neg hm, kid, if_neg hm, if_neg hne]
    · rename_i hy
      split
      · rename_i hn
        subst hn
        by_cases hm : tl y.f0 < tl m
        · rw [kid, if_pos hm, if_neg (fun e => lt_ne hm e.symm), kid, if_pos hm]
        · rw [kid, if_neg hm, kid, if_neg hm]
          by_cases e : m = y.f0
          · rw [if_pos e.symm, if_pos e]
          · rw [if_neg (fun e' => e e'.symm), if_neg e, if_neg (fun e' => e e'.symm)]
      · rename_i hn
        have hlt := lt_tri _ _ hy hn
        by_cases hm : tl n < tl m
        · rw [kid, if_pos hm, if_neg (fun e => lt_ne hm e.symm)]
        · by_cases e : m = n
          · subst e
            rw [kid, if_neg hm, if_pos rfl, if_pos rfl]
          · have hmn : tl m < tl n := lt_tri _ _ hm (fun e' => e e'.symm)
            rw [kid, if_neg hm, if_neg (fun e' => e e'.symm), if_neg e, kid_none_of_gt]
            intro z hz
            rcases List.mem_cons.1 hz with rfl | hz
            · exact List.lt_trans hmn hlt
            · exact List.lt_trans (List.lt_trans hmn hlt) (h1 z hz)
theorem kid_dropT : ∀ {t : Tr} {n : ByteArray}, Sorted t → ∀ m, kid (dropT t n) m = if m = n then none else kid t m
  | [], n, _, m => by simp [dropT, kid]
  | y :: t, n, h, m => by
    obtain ⟨h1, h2⟩ := List.pairwise_cons.1 h
    unfold dropT
    split
    · rename_i hy
      by_cases hm : tl y.f0 < tl m
      · rw [kid, if_pos hm, kid_dropT h2 m, kid, if_pos hm]
      · have hne : m ≠ n := fun e => hm (e ▸ hy)
        rw [kid, if_neg hm, kid, if_neg hm, if_neg hne]
    · rename_i hy
      split
      · rename_i hn
        subst hn
        by_cases hm : tl y.f0 < tl m
        · rw [if_neg (fun e => lt_ne hm e.symm), kid, if_pos hm]
        · by_cases e : m = y.f0
          · subst e
            rw [if_pos rfl, kid_none_of_gt h1]
          · have hmy : tl m < tl y.f0 := lt_tri _ _ hm (fun e' => e e'.symm)
            rw [if_neg e, kid_none_of_gt (fun z hz => List.lt_trans hmy (h1 z hz)), kid, if_neg hm, if_neg (fun e' => e e'.symm)]
      · rename_i hn
        by_cases e : m = n
        · subst e
          rw [if_pos rfl, kid, if_neg hy, if_neg hn]
        · rw [if_neg e]
theorem kid_self (x : Edge) (a : Tr) : kid (x :: a) x.f0 = some x.f1 := by rw [kid, if_neg (List.lt_irrefl _), if_pos rfl]
theorem tree_ext : ∀ {a b : Tr}, Sorted a → Sorted b → (∀ n, kid a n = kid b n) → a = b
  | [], [], _, _, _ => rfl
  | [], y :: b, _, _, h => by have := h y.f0; rw [kid_self] at this; cases this
  | x :: a, [], _, _, h => by have := h x.f0; rw [kid_self] at this; cases this
  | x :: a, y :: b, ha, hb, h => by
    obtain ⟨a1, a2⟩ := List.pairwise_cons.1 ha
    obtain ⟨b1, b2⟩ := List.pairwise_cons.1 hb
    have e : x.f0 = y.f0 := by
      refine Classical.byContradiction fun hne => ?_
      by_cases hlt : tl x.f0 < tl y.f0
      · have := h x.f0
        rw [kid_self, kid_none_of_gt] at this
        · cases this
        · intro z hz
          rcases List.mem_cons.1 hz with rfl | hz
          · exact hlt
          · exact List.lt_trans hlt (b1 z hz)
      · have hlt' := lt_tri _ _ hlt hne
        have := h y.f0
        rw [kid_self, kid_none_of_gt] at this
        · cases this
        · intro z hz
          rcases List.mem_cons.1 hz with rfl | hz
          · exact hlt'
          · exact List.lt_trans hlt' (a1 z hz)
    have e2 : x.f1 = y.f1 := by
      have := h x.f0
      rw [kid_self, e, kid_self] at this
      injection this
    have exy : x = y := by cases x; cases y; simp_all
    subst exy
    congr 1
    refine tree_ext a2 b2 fun n => ?_
    have := h n
    by_cases hn : tl x.f0 < tl n
    · rwa [kid, if_pos hn, kid, if_pos hn] at this
    · by_cases e : x.f0 = n
      · subst e
        rw [kid_none_of_gt a1, kid_none_of_gt b1]
      · have hnx := lt_tri _ _ hn e
        rw [kid_none_of_gt (fun z hz => List.lt_trans hnx (a1 z hz)), kid_none_of_gt (fun z hz => List.lt_trans hnx (b1 z hz))]
/-! ### Trees so deep, so wide -/
def Ok (W : Nat) : Nat → Tr → Prop
  | 0, t => t = []
  | d + 1, t => t.length ≤ W ∧ Sorted t ∧ ∀ x ∈ t, Ok W d x.f1
theorem Ok.nil (W : Nat) : ∀ d, Ok W d []
  | 0 => rfl
  | d + 1 => ⟨Nat.zero_le _, List.Pairwise.nil, fun x h => by cases h⟩
theorem Ok.succ {W : Nat} : ∀ {d : Nat} {t : Tr}, Ok W d t → Ok W (d + 1) t
  | 0, t, h => by rw [show t = [] from h]; exact Ok.nil W 1
  | d + 1, t, h => ⟨h.1, h.2.1, fun x hx => Ok.succ (h.2.2 x hx)⟩
theorem Ok.le {W d d' : Nat} {t : Tr} (h : Ok W d t) (hd : d ≤ d') : Ok W d' t := by
  induction hd with
  | refl => exact h
  | step _ ih => exact ih.succ
theorem Ok.wide {W W' : Nat} (hW : W ≤ W') : ∀ {d : Nat} {t : Tr}, Ok W d t → Ok W' d t
  | 0, t, h => h
  | d + 1, t, h => ⟨Nat.le_trans h.1 hW, h.2.1, fun x hx => Ok.wide hW (h.2.2 x hx)⟩
theorem Ok.length {W d : Nat} {t : Tr} (h : Ok W d t) : t.length ≤ W := by
  cases d with
  | zero => rw [show t = [] from h]; exact Nat.zero_le _
  | succ d => exact h.1
theorem Ok.sorted {W d : Nat} {t : Tr} (h : Ok W d t) : Sorted t := by
  cases d with
  | zero => rw [show t = [] from h]; exact List.Pairwise.nil
  | succ d => exact h.2.1
theorem Ok.kid {W d : Nat} {t x : Tr} {n : ByteArray} (h : Ok W (d + 1) t) (hk : PX.kid t n = some x) : Ok W d x := h.2.2 _ (mem_kid hk)
theorem Ok.kid0 {W d : Nat} {t : Tr} {n : ByteArray} (h : Ok W (d + 1) t) : Ok W d ((PX.kid t n).getD []) := by
  cases e : PX.kid t n with
  | none => exact Ok.nil _ _
  | some x => exact h.kid e
theorem Ok.withT {W d : Nat} {t x : Tr} {n : ByteArray} (h : Ok W (d + 1) t) (hx : Ok W d x) (hl : (PX.withT t n x).length ≤ W) : Ok W (d + 1) (PX.withT t n x) :=
  ⟨hl, sorted_withT h.sorted, fun z hz => by
    rcases mem_withT hz with rfl | hz
    · exact hx
    · exact h.2.2 z hz⟩
theorem Ok.dropT {W d : Nat} {t : Tr} {n : ByteArray} (h : Ok W (d + 1) t) : Ok W (d + 1) (PX.dropT t n) :=
  ⟨Nat.le_trans (dropT_length _ _) h.1, sorted_dropT h.sorted, fun z hz => h.2.2 z (mem_dropT hz)⟩
end Go.Proofs.Ytbhgocpenbibgaa.PX
-- written by wip/tools/hybrid.py (over the kit's print.py, with functions proved by hand beside it) for this claim
namespace Go.Proofs.Ytbhgocpenbibgaa.PX
open Go.RowKit Go.Proofs.YtbhgocpenbibgaaW.PrintWords Go.Proofs.YtbhgocpenbibgaaW.PrintLast Go.Proofs.YtbhgocpenbibgaaW.PrintMore
attribute [local go_sem] max2_int min2_int max_two min_two max_three min_three max_four min_four   -- for this text's walks alone
set_option linter.unusedVariables false
set_option linter.unusedSimpArgs false

/-! ### cadenceref2_At: function 35 -/
def cadenceref2_At.l0 : Nat → List (S45) → ByteArray → Int → Option (Int × Bool)
  | 0, _, _, _ => none
  | k + 1, x0, x1, x6 => if x6 < (x0.length : Int) then (if 0 ≤ x6 then (if (Op.bytesLess (((rd_T45 x0 x6).f0).toList) x1.toList) = true then (cadenceref2_At.l0 k x0 x1 (wrap64 (x6 + 1))) else (some (x6, (((rd_T45 x0 x6).f0).toList == x1.toList)))) else (none)) else (some (x6, false))
def cadenceref2_At.f (k : Nat) (l0 : List (S45)) (a1 : ByteArray) : Option (Int × Bool) := cadenceref2_At.l0 k l0 a1 0
theorem cadenceref2_At.mono_l : ∀ k, (∀ y0 y1 y2, LeO (cadenceref2_At.l0 k y0 y1 y2) (cadenceref2_At.l0 (k + 1) y0 y1 y2))
  | 0 => fun _ _ _ r h => by simp [cadenceref2_At.l0] at h
  | k + 1 => by
    have ih0 := cadenceref2_At.mono_l k
    · intro y0 y1 y2
      unfold cadenceref2_At.l0
      repeat' first
      | (with_reducible exact ih0 _ _ _)
      | (with_reducible exact LeO.refl _)
      | (with_reducible exact LeO.none _)
      | (with_reducible refine LeO.ite ?_ ?_)
      | (with_reducible refine LeO.bind ?_ (fun _ => ?_))
      | exact ih0 _ _ _
      | exact LeO.none _
      | refine LeO.ite ?_ ?_
      | refine LeO.bind ?_ (fun _ => ?_)
theorem cadenceref2_At.mono : ∀ a0 a1 k, LeO (cadenceref2_At.f k a0 a1) (cadenceref2_At.f (k + 1) a0 a1) := by
  intro a0 a1 k
  have ih0 := cadenceref2_At.mono_l k
  unfold cadenceref2_At.f
  repeat' first
      | (with_reducible exact ih0 _ _ _)
      | (with_reducible exact LeO.refl _)
      | (with_reducible exact LeO.none _)
      | (with_reducible refine LeO.ite ?_ ?_)
      | (with_reducible refine LeO.bind ?_ (fun _ => ?_))
      | exact ih0 _ _ _
      | exact LeO.none _
      | refine LeO.ite ?_ ?_
      | refine LeO.bind ?_ (fun _ => ?_)
set_option maxHeartbeats 8000000 in
set_option maxRecDepth 100000 in
theorem cadenceref2_At.calls (k : Nat) (A0 : Option Addr) (c0 : Nat) (l0 : List (S45)) (a1 : ByteArray) (r1 : Int) (r2 : Bool) (w : World) (hr0 : Kd.C k45 w A0 l0.length l0) (hc0 : l0.length ≤ c0) (h : cadenceref2_At.f k l0 a1 = some (r1, r2)) :
    Calls Try.prog 35 #[.slice A0 l0.length c0, .string a1] w fun e w' => e = .returned (.tuple #[.int .i64 r1, .bool r2]) ∧ Drawn0 w w' := by
  have HR0 := Aside0.mk hr0
  have HC0 := Aside0.mk hc0
  clear hr0 hc0
  have H : (cadenceref2_At.l0 k l0 a1 0) = some (r1, r2) := h
  clear h
  have H' := Aside0.mk H
  clear H
  go_enter Try.func35, Try.ntmps35
  go_wp2
  repeat (go_quiet (fail); try go_wp2)
  go_loopg [6] k (fun kq v6 w' => ∃ (x6_1 : Int), v6 = .int .i64 x6_1 ∧ Aside0 (cadenceref2_At.l0 kq l0 a1 x6_1 = some (r1, r2)) ∧ Aside0 (kq ≤ k) ∧ Drawn0 w w')
  case atStart => exact ⟨(0), (by first | rfl | (simp; done) | (simp [*]; done)), H', ⟨Nat.le_refl _⟩, by repeat (first | exact Drawn0.refl _ | apply Drawn0.step)⟩
  case round =>
    clear H'
    try clear p2
    obtain ⟨x6_1, rfl, HA, HK1, ⟨m1, rfl⟩⟩ := hrel
    cases gk with
    | zero => exact absurd HA.out (by simp [cadenceref2_At.l0])
    | succ k1 =>
      have H := HA.out
      clear HA
      simp only [cadenceref2_At.l0] at H
      by_cases c3 : x6_1 < (l0.length : Int)
      · rw [if_pos c3] at H
        have c3b0 : decide (x6_1 < (l0.length : Int)) = true := decide_eq_true c3
        clear c3
        by_cases c4 : 0 ≤ x6_1
        · rw [if_pos c4] at H
          have c4b0 : decide (0 ≤ x6_1) = true := decide_eq_true c4
          clear c4
          by_cases c5 : (Op.bytesLess (((rd_T45 l0 x6_1).f0).toList) a1.toList) = true
          · rw [if_pos c5] at H
            have c5b0 : (Op.bytesLess (((rd_T45 l0 x6_1).f0).toList) a1.toList) = true := c5
            clear c5
            have H' := Aside0.mk H
            clear H
            have p256 : 0 ≤ (x6_1 : Int) := of_decide_eq_true (by first | (with_reducible assumption) | assumption)
            have q256 : x6_1 < (l0.length : Int) := of_decide_eq_true (by first | (with_reducible assumption) | assumption)
            obtain ⟨ad256, A256_1, c256_1, e256, hx256_0, hx256_1, hl256_1, hi256_1⟩ := at_T45 HR0.out x6_1 p256 q256
            cases e256
            have HR256_1 := Aside0.mk hi256_1
            have HC256_1 := Aside0.mk hl256_1
            clear hi256_1 hl256_1
            replace p256 := eq_true p256
            replace q256 := eq_true q256
            go_wp2
            repeat (go_quiet (fail); try go_wp2)
            go_roundg k1
            case measure => have := HK1.out; omega
            case rel => exact ⟨(wrap64 (x6_1 + 1)), (by first | rfl | (simp; done) | (simp [*]; done)), H', ⟨by have := HK1.out; omega⟩, by repeat (first | exact Drawn0.refl _ | apply Drawn0.step)⟩
          · rw [if_neg c5] at H
            have c5b0 : (Op.bytesLess (((rd_T45 l0 x6_1).f0).toList) a1.toList) = false := by simpa using c5
            clear c5
            simp only [Option.some.injEq, Prod.mk.injEq] at H
            obtain ⟨rfl, rfl⟩ := H
            have p256 : 0 ≤ (x6_1 : Int) := of_decide_eq_true (by first | (with_reducible assumption) | assumption)
            have q256 : x6_1 < (l0.length : Int) := of_decide_eq_true (by first | (with_reducible assumption) | assumption)
            obtain ⟨ad256, A256_1, c256_1, e256, hx256_0, hx256_1, hl256_1, hi256_1⟩ := at_T45 HR0.out x6_1 p256 q256
            cases e256
            have HR256_1 := Aside0.mk hi256_1
            have HC256_1 := Aside0.mk hl256_1
            clear hi256_1 hl256_1
            replace p256 := eq_true p256
            replace q256 := eq_true q256
            have p257 : 0 ≤ (x6_1 : Int) := of_decide_eq_true (by first | (with_reducible assumption) | assumption)
            have q257 : x6_1 < (l0.length : Int) := of_decide_eq_true (by first | (with_reducible assumption) | assumption)
            obtain ⟨ad257, A257_1, c257_1, e257, hx257_0, hx257_1, hl257_1, hi257_1⟩ := at_T45 HR0.out x6_1 p257 q257
            obtain rfl : ad256 = ad257 := (by injection e257)
            have HR257_1 := Aside0.mk hi257_1
            have HC257_1 := Aside0.mk hl257_1
            clear hi257_1 hl257_1
            replace p257 := eq_true p257
            replace q257 := eq_true q257
            have ea_ := Option.some.inj (hx256_1.symm.trans hx257_1)
            injection ea_ with ea_ en_ ec_
            subst ea_
            subst ec_
            clear en_
            go_wp2
            repeat (go_quiet (fail); try go_wp2)
            go_ret2
            exact ⟨by first | rfl | (simp; done) | (simp [*]; done), by repeat (first | exact Drawn0.refl _ | apply Drawn0.step)⟩
        · rw [if_neg c4] at H
          exact absurd H (by simp)
      · rw [if_neg c3] at H
        have c3b0 : decide (x6_1 < (l0.length : Int)) = false := decide_eq_false c3
        clear c3
        simp only [Option.some.injEq, Prod.mk.injEq] at H
        obtain ⟨rfl, rfl⟩ := H
        go_wp2
        repeat (go_quiet (fail); try go_wp2)
        go_ret2
        exact ⟨by first | rfl | (simp; done) | (simp [*]; done), by repeat (first | exact Drawn0.refl _ | apply Drawn0.step)⟩

end Go.Proofs.Ytbhgocpenbibgaa.PX
-- written by wip/tools/hybrid.py (over the kit's print.py, with functions proved by hand beside it) for this claim
namespace Go.Proofs.Ytbhgocpenbibgaa.PX
open Go.RowKit Go.Proofs.YtbhgocpenbibgaaW.PrintWords Go.Proofs.YtbhgocpenbibgaaW.PrintLast Go.Proofs.YtbhgocpenbibgaaW.PrintMore
attribute [local go_sem] max2_int min2_int max_two min_two max_three min_three max_four min_four   -- for this text's walks alone
set_option linter.unusedVariables false
set_option linter.unusedSimpArgs false

/-! ### cadenceref2_With: function 24 -/
def cadenceref2_With.f (k : Nat) (l0 : List (S45)) (a1 : ByteArray) (l2 : List (S45)) : Option ((List (S45))) := (cadenceref2_At.f k l0 a1).bind fun bt258 => (if 0 ≤ bt258.1 then (if bt258.1 ≤ (l0.length : Int) then ((some (l0.take (bt258.1 : Int).toNat : List (S45))).bind fun y260 => (if ([] : List (S45)).length + y260.length < 3518437208883 then ((some (([] : List (S45)) ++ y260 : List (S45))).bind fun y265 => (if y265.length < 3518437208883 then ((some (y265 ++ [(⟨a1, l2⟩ : S45)] : List (S45))).bind fun y268 => (if bt258.2 = true then (if 0 ≤ (wrap64 (bt258.1 + 1)) then (if (wrap64 (bt258.1 + 1)) ≤ (l0.length : Int) then ((some (l0.drop ((wrap64 (bt258.1 + 1)) : Int).toNat : List (S45))).bind fun y271 => (if y268.length + y271.length < 3518437208883 then (some (y268 ++ y271)) else (none))) else (none)) else (none)) else ((some (l0.drop (bt258.1 : Int).toNat : List (S45))).bind fun y279 => (if y268.length + y279.length < 3518437208883 then (some (y268 ++ y279)) else (none))))) else (none))) else (none))) else (none)) else (none))
theorem cadenceref2_With.mono : ∀ a0 a1 a2 k, LeO (cadenceref2_With.f k a0 a1 a2) (cadenceref2_With.f (k + 1) a0 a1 a2) := by
  intro a0 a1 a2 k
  unfold cadenceref2_With.f
  repeat' first
      | (with_reducible exact cadenceref2_At.mono _ _ _)
      | (with_reducible exact LeO.refl _)
      | (with_reducible exact LeO.none _)
      | (with_reducible refine LeO.ite ?_ ?_)
      | (with_reducible refine LeO.bind ?_ (fun _ => ?_))
      | exact cadenceref2_At.mono _ _ _
      | exact LeO.none _
      | refine LeO.ite ?_ ?_
      | refine LeO.bind ?_ (fun _ => ?_)
set_option maxHeartbeats 8000000 in
set_option maxRecDepth 100000 in
theorem cadenceref2_With.calls (k : Nat) (P0_ : Nat → Prop) (A0 : Option Addr) (c0 : Nat) (l0 : List (S45)) (a1 : ByteArray) (P2_ : Nat → Prop) (A2 : Option Addr) (c2 : Nat) (l2 : List (S45)) (r : List (S45)) (w : World) (hs0 : Kd.V k45 45 w w.heap.size (fun k_ => P0_ k_) (.slice A0 l0.length c0) l0) (hs2 : Kd.V k45 45 w w.heap.size (fun k_ => P2_ k_) (.slice A2 l2.length c2) l2) (h : cadenceref2_With.f k l0 a1 l2 = some r) :
    Calls Try.prog 24 #[.slice A0 l0.length c0, .string a1, .slice A2 l2.length c2] w fun e w' => ∃ v0_ : Value, e = .returned (v0_) ∧ Kd.N k45 45 w' w.heap.size (fun k_ => ((P0_ k_ ∨ P2_ k_) ∨ w.heap.size ≤ k_)) v0_ r ∧ Below w.heap.size w w' := by
  have hu45 := Try.underlying45
  have HO0 := Aside0.mk (show Kd.V k45 45 w w.heap.size (fun k_ => ((P0_ k_ ∨ P2_ k_) ∨ w.heap.size ≤ k_)) (.slice A0 l0.length c0) l0 from Kd.V_mono hs0 (fun k_ hk => .inl (.inl hk)))
  have HO2 := Aside0.mk (show Kd.V k45 45 w w.heap.size (fun k_ => ((P0_ k_ ∨ P2_ k_) ∨ w.heap.size ≤ k_)) (.slice A2 l2.length c2) l2 from Kd.V_mono hs2 (fun k_ hk => .inl (.inr hk)))
  have HB := Aside0.mk (Below.refl w.heap.size w)
  have H : ((cadenceref2_At.f k l0 a1).bind fun bt258 => (if 0 ≤ bt258.1 then (if bt258.1 ≤ (l0.length : Int) then ((some (l0.take (bt258.1 : Int).toNat : List (S45))).bind fun y260 => (if ([] : List (S45)).length + y260.length < 3518437208883 then ((some (([] : List (S45)) ++ y260 : List (S45))).bind fun y265 => (if y265.length < 3518437208883 then ((some (y265 ++ [(⟨a1, l2⟩ : S45)] : List (S45))).bind fun y268 => (if bt258.2 = true then (if 0 ≤ (wrap64 (bt258.1 + 1)) then (if (wrap64 (bt258.1 + 1)) ≤ (l0.length : Int) then ((some (l0.drop ((wrap64 (bt258.1 + 1)) : Int).toNat : List (S45))).bind fun y271 => (if y268.length + y271.length < 3518437208883 then (some (y268 ++ y271)) else (none))) else (none)) else (none)) else ((some (l0.drop (bt258.1 : Int).toNat : List (S45))).bind fun y279 => (if y268.length + y279.length < 3518437208883 then (some (y268 ++ y279)) else (none))))) else (none))) else (none))) else (none)) else (none))) = some r := h
  clear h
  replace H := Option.bind_eq_some_iff.mp H
  obtain ⟨⟨t258, t259⟩, A40, H⟩ := H
  replace H : (if 0 ≤ t258 then (if t258 ≤ (l0.length : Int) then ((some (l0.take (t258 : Int).toNat : List (S45))).bind fun y260 => (if ([] : List (S45)).length + y260.length < 3518437208883 then ((some (([] : List (S45)) ++ y260 : List (S45))).bind fun y265 => (if y265.length < 3518437208883 then ((some (y265 ++ [(⟨a1, l2⟩ : S45)] : List (S45))).bind fun y268 => (if t259 = true then (if 0 ≤ (wrap64 (t258 + 1)) then (if (wrap64 (t258 + 1)) ≤ (l0.length : Int) then ((some (l0.drop ((wrap64 (t258 + 1)) : Int).toNat : List (S45))).bind fun y271 => (if y268.length + y271.length < 3518437208883 then (some (y268 ++ y271)) else (none))) else (none)) else (none)) else ((some (l0.drop (t258 : Int).toNat : List (S45))).bind fun y279 => (if y268.length + y279.length < 3518437208883 then (some (y268 ++ y279)) else (none))))) else (none))) else (none))) else (none)) else (none)) = some r := H
  have A4 := Aside0.mk A40
  clear A40
  by_cases c5 : 0 ≤ t258
  · rw [if_pos c5] at H
    have c5b0 := eq_true c5
    have c5b1 : decide (0 ≤ t258) = true := decide_eq_true c5
    clear c5
    by_cases c6 : t258 ≤ (l0.length : Int)
    · rw [if_pos c6] at H
      have c6b0 := eq_true c6
      have c6b1 : decide (t258 ≤ (l0.length : Int)) = true := decide_eq_true c6
      clear c6
      obtain ⟨y260, hy260⟩ : ∃ y_ : List (S45), y_ = (l0.take (t258 : Int).toNat) := ⟨_, rfl⟩
      replace H : (if ([] : List (S45)).length + y260.length < 3518437208883 then ((some (([] : List (S45)) ++ y260 : List (S45))).bind fun y265 => (if y265.length < 3518437208883 then ((some (y265 ++ [(⟨a1, l2⟩ : S45)] : List (S45))).bind fun y268 => (if t259 = true then (if 0 ≤ (wrap64 (t258 + 1)) then (if (wrap64 (t258 + 1)) ≤ (l0.length : Int) then ((some (l0.drop ((wrap64 (t258 + 1)) : Int).toNat : List (S45))).bind fun y271 => (if y268.length + y271.length < 3518437208883 then (some (y268 ++ y271)) else (none))) else (none)) else (none)) else ((some (l0.drop (t258 : Int).toNat : List (S45))).bind fun y279 => (if y268.length + y279.length < 3518437208883 then (some (y268 ++ y279)) else (none))))) else (none))) else (none)) = some r := by first | (rw [hy260]; with_reducible exact H) | (have H2_ := (Option.bind_some _ _).symm.trans H; rw [hy260]; with_reducible exact H2_) | (have H2_ := (Option.bind_some _ _).symm.trans H; with_reducible exact H2_) | with_reducible exact H | (rw [hy260]; exact H) | exact H
      have Ny260 := Aside0.mk hy260
      clear hy260
      by_cases c7 : ([] : List (S45)).length + y260.length < 3518437208883
      · rw [if_pos c7] at H
        have LMc7 := Aside0.mk c7
        clear c7
        obtain ⟨y265, hy265⟩ : ∃ y_ : List (S45), y_ = (([] : List (S45)) ++ y260) := ⟨_, rfl⟩
        replace H : (if y265.length < 3518437208883 then ((some (y265 ++ [(⟨a1, l2⟩ : S45)] : List (S45))).bind fun y268 => (if t259 = true then (if 0 ≤ (wrap64 (t258 + 1)) then (if (wrap64 (t258 + 1)) ≤ (l0.length : Int) then ((some (l0.drop ((wrap64 (t258 + 1)) : Int).toNat : List (S45))).bind fun y271 => (if y268.length + y271.length < 3518437208883 then (some (y268 ++ y271)) else (none))) else (none)) else (none)) else ((some (l0.drop (t258 : Int).toNat : List (S45))).bind fun y279 => (if y268.length + y279.length < 3518437208883 then (some (y268 ++ y279)) else (none))))) else (none)) = some r := by first | (rw [hy265]; with_reducible exact H) | (have H2_ := (Option.bind_some _ _).symm.trans H; rw [hy265]; with_reducible exact H2_) | (have H2_ := (Option.bind_some _ _).symm.trans H; with_reducible exact H2_) | with_reducible exact H | (rw [hy265]; exact H) | exact H
        have Ny265 := Aside0.mk hy265
        clear hy265
        by_cases c8 : y265.length < 3518437208883
        · rw [if_pos c8] at H
          have LMc8 := Aside0.mk c8
          clear c8
          obtain ⟨y268, hy268⟩ : ∃ y_ : List (S45), y_ = (y265 ++ [(⟨a1, l2⟩ : S45)]) := ⟨_, rfl⟩
          replace H : (if t259 = true then (if 0 ≤ (wrap64 (t258 + 1)) then (if (wrap64 (t258 + 1)) ≤ (l0.length : Int) then ((some (l0.drop ((wrap64 (t258 + 1)) : Int).toNat : List (S45))).bind fun y271 => (if y268.length + y271.length < 3518437208883 then (some (y268 ++ y271)) else (none))) else (none)) else (none)) else ((some (l0.drop (t258 : Int).toNat : List (S45))).bind fun y279 => (if y268.length + y279.length < 3518437208883 then (some (y268 ++ y279)) else (none)))) = some r := by first | (rw [hy268]; with_reducible exact H) | (have H2_ := (Option.bind_some _ _).symm.trans H; rw [hy268]; with_reducible exact H2_) | (have H2_ := (Option.bind_some _ _).symm.trans H; with_reducible exact H2_) | with_reducible exact H | (rw [hy268]; exact H) | exact H
          have Ny268 := Aside0.mk hy268
          clear hy268
          by_cases c9 : t259 = true
          · subst c9
            have H1 : (if 0 ≤ (wrap64 (t258 + 1)) then (if (wrap64 (t258 + 1)) ≤ (l0.length : Int) then ((some (l0.drop ((wrap64 (t258 + 1)) : Int).toNat : List (S45))).bind fun y271 => (if y268.length + y271.length < 3518437208883 then (some (y268 ++ y271)) else (none))) else (none)) else (none)) = some r := by rw [if_pos rfl] at H; exact H
            clear H
            have H := H1
            clear H1
            obtain ⟨ji10, hji10⟩ : ∃ j_ : Int, (wrap64 (t258 + 1)) = j_ := ⟨_, rfl⟩
            replace H : (if 0 ≤ (ji10) then (if (ji10) ≤ (l0.length : Int) then ((some (l0.drop ((ji10) : Int).toNat : List (S45))).bind fun y271 => (if y268.length + y271.length < 3518437208883 then (some (y268 ++ y271)) else (none))) else (none)) else (none)) = some r := by first | (rw [hji10] at H; exact H) | (simp only [hji10] at H ⊢; exact H)
            (try rw [hji10] at A4)
            have hji10w : (IntKind.i64.wrap (t258 + 1)) = ji10 := (i64_w _).trans hji10
            by_cases c11 : 0 ≤ (ji10)
            · rw [if_pos c11] at H
              have c11b0 := eq_true c11
              have c11b1 : decide (0 ≤ (ji10)) = true := decide_eq_true c11
              clear c11
              by_cases c12 : (ji10) ≤ (l0.length : Int)
              · rw [if_pos c12] at H
                have c12b0 := eq_true c12
                have c12b1 : decide ((ji10) ≤ (l0.length : Int)) = true := decide_eq_true c12
                clear c12
                obtain ⟨y271, hy271⟩ : ∃ y_ : List (S45), y_ = (l0.drop ((ji10) : Int).toNat) := ⟨_, rfl⟩
                replace H : (if y268.length + y271.length < 3518437208883 then (some (y268 ++ y271)) else (none)) = some r := by first | (rw [hy271]; with_reducible exact H) | (have H2_ := (Option.bind_some _ _).symm.trans H; rw [hy271]; with_reducible exact H2_) | (have H2_ := (Option.bind_some _ _).symm.trans H; with_reducible exact H2_) | with_reducible exact H | (rw [hy271]; exact H) | exact H
                have Ny271 := Aside0.mk hy271
                clear hy271
                by_cases c13 : y268.length + y271.length < 3518437208883
                · rw [if_pos c13] at H
                  have LMc13 := Aside0.mk c13
                  clear c13
                  obtain ⟨y276, hy276⟩ : ∃ y_ : List (S45), y_ = (y268 ++ y271) := ⟨_, rfl⟩
                  replace H : (some y276) = some r := by first | (rw [hy276]; with_reducible exact H) | (have H2_ := (Option.bind_some _ _).symm.trans H; rw [hy276]; with_reducible exact H2_) | (have H2_ := (Option.bind_some _ _).symm.trans H; with_reducible exact H2_) | with_reducible exact H | (rw [hy276]; exact H) | exact H
                  have Ny276 := Aside0.mk hy276
                  clear hy276
                  obtain rfl := Option.some.inj H
                  go_enter Try.func24, Try.ntmps24
                  go_wp2_with (first | ((with_reducible refine gate_callee (f := 35) rfl ?_); refine goesL_ (some 13) rfl rfl Try.func35 (by kernel_rfl) rfl #[.slice A0 l0.length c0, .string a1] rfl (by (try simp only [List.map_toArray, List.map_cons, List.map_nil]); first | done | rfl | (simp only [List.length_drop, List.length_take]; rfl)) ?_; (with_reducible refine (cadenceref2_At.calls k _ _ l0 a1 t258 true _ ?side1 ?side2 A4.out).mono ?_); (case side1 => repeat (first | exact (Kd.V_reads' HO0.out).2.2 | (with_reducible refine cA_ ?_ _) | (with_reducible refine cN_ ?_ _) | (with_reducible refine cD_ ?_))); (case side2 => exact (Kd.V_reads' HO0.out).2.1); rintro e w' ⟨rfl, ⟨nd, rfl⟩⟩; refine ⟨_, rfl, ?_⟩; have q14 : (t258 : Int) ≤ ((l0.length : Int) : Int) := of_decide_eq_true (by first | (with_reducible assumption) | assumption); obtain ⟨i014, hi014, _, hsz14, _⟩ := info_parts info45; have hroom14 : l0.length ≤ c0 := (Kd.V_reads' HO0.out).2.1; have hC14 : Kd.F k45 _ _ A0 l0.length l0 := (Kd.V_at (base := w.heap.size) HO0.out).2.2; have hcut14 := cut_to (P := Try.prog) 26 45 .i64 Try.underlying26 hi014 A0 l0.length c0 t258 (of_decide_eq_true (by first | (with_reducible assumption) | assumption)) q14 hroom14; have hr14 := Kd.F_take (m := (t258 : Int).toNat) hC14 (by omega); have hy14 : y260.length = (t258 : Int).toNat := (by rw [Ny260.out, List.length_take]; omega); rw [← Ny260.out] at hr14; rw [← hy14] at hcut14; have HO264 := Aside0.mk (show Kd.V k45 45 _ w.heap.size _ (.slice A0 y260.length c0) y260 from Kd.V_mk (by omega) hr14); have HC264 := Aside0.mk (show y260.length ≤ c0 from by omega); clear hr14 hC14 hroom14 hi014 hsz14; have KY14 := Aside0.mk hy14; clear hy14; replace q14 := eq_true q14) | ((with_reducible refine gate_builtin (b := .append) (xs := #[.tmp 16, .tmp 19]) rfl ?_); at_builtin; refine Kd.N_append_rows k45 (w0 := w) w.heap.size rfl (.tmp 16) (.tmp 19) 26 45 (.agg #[(.string ⟨#[]⟩), (.slice none 0 0)]) 40 rfl Try.underlying26 info45 rfl (by decide) (by omega) (.slice none 0 0) ([] : List (S45)) y260 _ _ _ (fun k_ => ((P0_ k_ ∨ P2_ k_) ∨ w.heap.size ≤ k_)) (fun k_ => ((fun k_ => ((P0_ k_ ∨ P2_ k_) ∨ w.heap.size ≤ k_))) k_ ∧ some k_ ≠ (.slice none 0 0 : Value).ownBlock) rfl rfl ?aO ?aR (fun _ hk => hk) ?aF ?aB ?aS ?aL ?_; (case aR => exact (by (with_reducible repeat (first | apply Kd.F_alloc | apply Kd.F_drewN | apply Kd.F_drew)); exact Kd.V_F (Kd.V_mono (ok' := (fun k_ => ((fun k_ => ((P0_ k_ ∨ P2_ k_) ∨ w.heap.size ≤ k_))) k_ ∧ some k_ ≠ (.slice none 0 0 : Value).ownBlock)) (HO264.out) (fun k_ hk => ⟨hk, (by simp [Value.ownBlock])⟩)))); (case aB => exact (by repeat (first | (with_reducible first | exact HB.out | apply bA_ | apply bN_ | apply bD_) | exact HB.out))); (case aF => exact (fun k_ hk => (.inr (Nat.le_trans (below_size (by repeat (first | (with_reducible first | exact HB.out | apply bA_ | apply bN_ | apply bD_) | exact HB.out))) hk)))); (case aO => exact ((Kd.N_nil _ _ _ _ (fun k_ => ((P0_ k_ ∨ P2_ k_) ∨ w.heap.size ≤ k_))))); (case aS => exact (below_size (by repeat (first | (with_reducible first | exact HB.out | apply bA_ | apply bN_ | apply bD_) | exact HB.out)))); (case aL => have := LMc7.out; omega); intro v266 w15 ho hb hg hat; rw [← Ny265.out] at ho; have n0_ := Aside0.mk (Kd.V_afterv (Kd.V_apart_nil (by (with_reducible repeat (first | apply vA_ | apply vN_ | apply vD_)); exact HO0.out)) hg hat); have n1_ := Aside0.mk (Kd.V_afterv (Kd.V_apart_nil (by (with_reducible repeat (first | apply vA_ | apply vN_ | apply vD_)); exact HO2.out)) hg hat); have n2_ := Aside0.mk (Kd.V_afterv (Kd.V_apart_nil (by (with_reducible repeat (first | apply vA_ | apply vN_ | apply vD_)); exact HO264.out)) hg hat); have n3_ := Aside0.mk (hb); have n4_ := Aside0.mk (ho); clear HO0; clear HO2; clear HO264; clear HB; have HO0 := n0_; have HO2 := n1_; have HO264 := n2_; have HB := n3_; have HO267 := n4_; clear n0_ n1_ n2_ n3_ n4_; clear ho hb hg hat) | ((with_reducible refine gate_builtin (b := .append) (xs := #[.tmp 21, .tmp 25]) rfl ?_); at_builtin; refine Kd.N_append k45 (w0 := w) w.heap.size rfl (.tmp 21) (.tmp 25) 26 45 (.agg #[(.string ⟨#[]⟩), (.slice none 0 0)]) 40 rfl Try.underlying26 info45 rfl (by decide) (by omega) v266 y265 (⟨a1, l2⟩ : S45) [.string a1, .slice A2 l2.length c2] (fun k_ => ((P0_ k_ ∨ P2_ k_) ∨ w.heap.size ≤ k_)) (fun k_ => ((fun k_ => ((P0_ k_ ∨ P2_ k_) ∨ w.heap.size ≤ k_))) k_ ∧ some k_ ≠ (v266 : Value).ownBlock) rfl rfl ?aP (fun _ hk => hk) ?aF ?aO ?aB ?aS ?aL ?_; (case aP => exact (k45_mkF _ _ (⟨a1, l2⟩ : S45) (Kd.V_reads' (Kd.V_mono (ok' := (fun k_ => ((fun k_ => ((P0_ k_ ∨ P2_ k_) ∨ w.heap.size ≤ k_))) k_ ∧ some k_ ≠ (v266 : Value).ownBlock)) (HO2.out) (fun k_ hk => ⟨hk.1, hk.2⟩))).2.1 (Kd.V_F (Kd.V_mono (ok' := (fun k_ => ((fun k_ => ((P0_ k_ ∨ P2_ k_) ∨ w.heap.size ≤ k_))) k_ ∧ some k_ ≠ (v266 : Value).ownBlock)) (HO2.out) (fun k_ hk => ⟨hk.1, hk.2⟩))))); (case aB => exact (by repeat (first | (with_reducible first | exact HB.out | apply bA_ | apply bN_ | apply bD_) | exact HB.out))); (case aF => exact (fun k_ hk => (.inr (Nat.le_trans (below_size (by repeat (first | (with_reducible first | exact HB.out | apply bA_ | apply bN_ | apply bD_) | exact HB.out))) hk)))); (case aO => exact (by (with_reducible repeat (first | apply nA_ | apply nN_ | apply nD_)); exact HO267.out)); (case aS => exact (below_size (by repeat (first | (with_reducible first | exact HB.out | apply bA_ | apply bN_ | apply bD_) | exact HB.out)))); (case aL => have := LMc8.out; omega); intro v269 w16 ho hb hg hat; rw [← Ny268.out] at ho; have n0_ := Aside0.mk (Kd.V_afterv (ok := (fun k_ => ((P0_ k_ ∨ P2_ k_) ∨ w.heap.size ≤ k_))) (by (with_reducible repeat (first | apply vA_ | apply vN_ | apply vD_)); exact HO0.out) hg hat); have n1_ := Aside0.mk (Kd.V_afterv (ok := (fun k_ => ((P0_ k_ ∨ P2_ k_) ∨ w.heap.size ≤ k_))) (by (with_reducible repeat (first | apply vA_ | apply vN_ | apply vD_)); exact HO2.out) hg hat); have n2_ := Aside0.mk (Kd.V_afterv (ok := (fun k_ => ((P0_ k_ ∨ P2_ k_) ∨ w.heap.size ≤ k_))) (by (with_reducible repeat (first | apply vA_ | apply vN_ | apply vD_)); exact HO264.out) hg hat); have n3_ := Aside0.mk (hb); have n4_ := Aside0.mk (ho); clear HO0; clear HO2; clear HO264; clear HB; clear HO267; have HO0 := n0_; have HO2 := n1_; have HO264 := n2_; have HB := n3_; have HO270 := n4_; clear n0_ n1_ n2_ n3_ n4_; clear ho hb hg hat; have q17 : ((ji10) : Int) ≤ ((l0.length : Int) : Int) := of_decide_eq_true (by first | (with_reducible assumption) | assumption); obtain ⟨i017, hi017, _, hsz17, _⟩ := info_parts info45; have hroom17 : l0.length ≤ c0 := (Kd.V_reads' HO0.out).2.1; have hC17 : Kd.F k45 _ _ A0 l0.length l0 := (Kd.V_at (base := w.heap.size) HO0.out).2.2; have q017 : (0 : Int) ≤ ((ji10) : Int) := of_decide_eq_true (by first | (with_reducible assumption) | assumption); have hcut17 := cut_from (P := Try.prog) 26 45 .i64 Try.underlying26 hi017 2 hsz17 A0 l0.length c0 (ji10) q017 q17; have hr17 := Kd.F_cut (m := ((ji10) : Int).toNat) (c := c0) hC17 (by omega) hroom17; obtain ⟨A17, hA17⟩ : ∃ A1, A1 = (if c0 = ((ji10) : Int).toNat then A0 else (A0 : Option Addr).map (·.add (((ji10) : Int).toNat * 2))) := ⟨_, rfl⟩; obtain ⟨c17, hc17⟩ : ∃ c1, c1 = c0 - ((ji10) : Int).toNat := ⟨_, rfl⟩; have hy17 : y271.length = l0.length - ((ji10) : Int).toNat := (by rw [Ny271.out, List.length_drop] <;> omega); rw [show (l0).drop ((ji10) : Int).toNat = y271 from Ny271.out.symm] at hr17; replace hr17 : Kd.F k45 _ _ A17 y271.length y271 := (by rw [hA17]; exact hr17); rw [← hy17, ← hA17, ← hc17] at hcut17; have HO275 := Aside0.mk (show Kd.V k45 45 _ w.heap.size _ (.slice A17 y271.length c17) y271 from Kd.V_mk (by rw [hy17, hc17]; exact Nat.sub_le_sub_right hroom17 _) hr17); have HC275 := Aside0.mk (show y271.length ≤ c17 from by rw [hy17, hc17]; exact Nat.sub_le_sub_right hroom17 _); clear hr17 hC17 hroom17 hi017 hsz17 hc17; have KY17 := Aside0.mk hy17; have KA17 := Aside0.mk hA17; clear hy17 hA17; replace q17 := eq_true q17) | ((with_reducible refine gate_builtin (b := .append) (xs := #[.tmp 30, .tmp 33]) rfl ?_); at_builtin; refine Kd.N_append_rows k45 (w0 := w) w.heap.size rfl (.tmp 30) (.tmp 33) 26 45 (.agg #[(.string ⟨#[]⟩), (.slice none 0 0)]) 40 rfl Try.underlying26 info45 rfl (by decide) (by omega) v269 y268 y271 _ _ _ (fun k_ => ((P0_ k_ ∨ P2_ k_) ∨ w.heap.size ≤ k_)) (fun k_ => ((fun k_ => ((P0_ k_ ∨ P2_ k_) ∨ w.heap.size ≤ k_))) k_ ∧ some k_ ≠ (v269 : Value).ownBlock) rfl rfl ?aO ?aR (fun _ hk => hk) ?aF ?aB ?aS ?aL ?_; (case aR => exact (by (with_reducible repeat (first | apply Kd.F_alloc | apply Kd.F_drewN | apply Kd.F_drew)); exact Kd.V_F (Kd.V_mono (ok' := (fun k_ => ((fun k_ => ((P0_ k_ ∨ P2_ k_) ∨ w.heap.size ≤ k_))) k_ ∧ some k_ ≠ (v269 : Value).ownBlock)) (HO275.out) (fun k_ hk => ⟨hk.1, hk.2⟩)))); (case aB => exact (by repeat (first | (with_reducible first | exact HB.out | apply bA_ | apply bN_ | apply bD_) | exact HB.out))); (case aF => exact (fun k_ hk => (.inr (Nat.le_trans (below_size (by repeat (first | (with_reducible first | exact HB.out | apply bA_ | apply bN_ | apply bD_) | exact HB.out))) hk)))); (case aO => exact (by (with_reducible repeat (first | apply nA_ | apply nN_ | apply nD_)); exact HO270.out)); (case aS => exact (below_size (by repeat (first | (with_reducible first | exact HB.out | apply bA_ | apply bN_ | apply bD_) | exact HB.out)))); (case aL => have := LMc13.out; omega); intro v277 w18 ho hb hg hat; rw [← Ny276.out] at ho; have n0_ := Aside0.mk (Kd.V_afterv (ok := (fun k_ => ((P0_ k_ ∨ P2_ k_) ∨ w.heap.size ≤ k_))) (by (with_reducible repeat (first | apply vA_ | apply vN_ | apply vD_)); exact HO0.out) hg hat); have n1_ := Aside0.mk (Kd.V_afterv (ok := (fun k_ => ((P0_ k_ ∨ P2_ k_) ∨ w.heap.size ≤ k_))) (by (with_reducible repeat (first | apply vA_ | apply vN_ | apply vD_)); exact HO2.out) hg hat); have n2_ := Aside0.mk (Kd.V_afterv (ok := (fun k_ => ((P0_ k_ ∨ P2_ k_) ∨ w.heap.size ≤ k_))) (by (with_reducible repeat (first | apply vA_ | apply vN_ | apply vD_)); exact HO264.out) hg hat); have n3_ := Aside0.mk (Kd.V_afterv (ok := (fun k_ => ((P0_ k_ ∨ P2_ k_) ∨ w.heap.size ≤ k_))) (by (with_reducible repeat (first | apply vA_ | apply vN_ | apply vD_)); exact HO275.out) hg hat); have n4_ := Aside0.mk (hb); have n5_ := Aside0.mk (ho); clear HO0; clear HO2; clear HO264; clear HO275; clear HB; clear HO270; have HO0 := n0_; have HO2 := n1_; have HO264 := n2_; have HO275 := n3_; have HB := n4_; have HO278 := n5_; clear n0_ n1_ n2_ n3_ n4_ n5_; clear ho hb hg hat))
                  go_ret
                  exact ⟨_, by first | rfl | (simp [errW_none, errW_some] <;> rfl) | (simp only [← hji10]; first | rfl | (simp [errW_none, errW_some] <;> rfl)) | (simp [*, errW_none, errW_some] <;> rfl), by (with_reducible repeat (first | apply nA_ | apply nN_ | apply nD_)); exact HO278.out, by repeat (first | (with_reducible first | exact HB.out | apply bA_ | apply bN_ | apply bD_) | exact HB.out)⟩
                · rw [if_neg c13] at H
                  exact absurd H (by simp)
              · rw [if_neg c12] at H
                exact absurd H (by simp)
            · rw [if_neg c11] at H
              exact absurd H (by simp)
          · replace c9 := Bool.eq_false_iff.mpr c9
            subst c9
            have H1 : ((some (l0.drop (t258 : Int).toNat : List (S45))).bind fun y279 => (if y268.length + y279.length < 3518437208883 then (some (y268 ++ y279)) else (none))) = some r := by rw [if_neg (show ¬ (false = true) by decide)] at H; exact H
            clear H
            have H := H1
            clear H1
            have c19b0 := eq_true (of_decide_eq_true (by first | (with_reducible assumption) | assumption) : 0 ≤ t258)
            have c20b0 := eq_true (of_decide_eq_true (by first | (with_reducible assumption) | assumption) : t258 ≤ (l0.length : Int))
            obtain ⟨y279, hy279⟩ : ∃ y_ : List (S45), y_ = (l0.drop (t258 : Int).toNat) := ⟨_, rfl⟩
            replace H : (if y268.length + y279.length < 3518437208883 then (some (y268 ++ y279)) else (none)) = some r := by first | (rw [hy279]; with_reducible exact H) | (have H2_ := (Option.bind_some _ _).symm.trans H; rw [hy279]; with_reducible exact H2_) | (have H2_ := (Option.bind_some _ _).symm.trans H; with_reducible exact H2_) | with_reducible exact H | (rw [hy279]; exact H) | exact H
            have Ny279 := Aside0.mk hy279
            clear hy279
            by_cases c21 : y268.length + y279.length < 3518437208883
            · rw [if_pos c21] at H
              have LMc21 := Aside0.mk c21
              clear c21
              obtain ⟨y284, hy284⟩ : ∃ y_ : List (S45), y_ = (y268 ++ y279) := ⟨_, rfl⟩
              replace H : (some y284) = some r := by first | (rw [hy284]; with_reducible exact H) | (have H2_ := (Option.bind_some _ _).symm.trans H; rw [hy284]; with_reducible exact H2_) | (have H2_ := (Option.bind_some _ _).symm.trans H; with_reducible exact H2_) | with_reducible exact H | (rw [hy284]; exact H) | exact H
              have Ny284 := Aside0.mk hy284
              clear hy284
              obtain rfl := Option.some.inj H
              go_enter Try.func24, Try.ntmps24
              go_wp2_with (first | ((with_reducible refine gate_callee (f := 35) rfl ?_); refine goesL_ (some 13) rfl rfl Try.func35 (by kernel_rfl) rfl #[.slice A0 l0.length c0, .string a1] rfl (by (try simp only [List.map_toArray, List.map_cons, List.map_nil]); first | done | rfl | (simp only [List.length_drop, List.length_take]; rfl)) ?_; (with_reducible refine (cadenceref2_At.calls k _ _ l0 a1 t258 false _ ?side1 ?side2 A4.out).mono ?_); (case side1 => repeat (first | exact (Kd.V_reads' HO0.out).2.2 | (with_reducible refine cA_ ?_ _) | (with_reducible refine cN_ ?_ _) | (with_reducible refine cD_ ?_))); (case side2 => exact (Kd.V_reads' HO0.out).2.1); rintro e w' ⟨rfl, ⟨nd, rfl⟩⟩; refine ⟨_, rfl, ?_⟩; have q22 : (t258 : Int) ≤ ((l0.length : Int) : Int) := of_decide_eq_true (by first | (with_reducible assumption) | assumption); obtain ⟨i022, hi022, _, hsz22, _⟩ := info_parts info45; have hroom22 : l0.length ≤ c0 := (Kd.V_reads' HO0.out).2.1; have hC22 : Kd.F k45 _ _ A0 l0.length l0 := (Kd.V_at (base := w.heap.size) HO0.out).2.2; have hcut22 := cut_to (P := Try.prog) 26 45 .i64 Try.underlying26 hi022 A0 l0.length c0 t258 (of_decide_eq_true (by first | (with_reducible assumption) | assumption)) q22 hroom22; have hr22 := Kd.F_take (m := (t258 : Int).toNat) hC22 (by omega); have hy22 : y260.length = (t258 : Int).toNat := (by rw [Ny260.out, List.length_take]; omega); rw [← Ny260.out] at hr22; rw [← hy22] at hcut22; have HO264 := Aside0.mk (show Kd.V k45 45 _ w.heap.size _ (.slice A0 y260.length c0) y260 from Kd.V_mk (by omega) hr22); have HC264 := Aside0.mk (show y260.length ≤ c0 from by omega); clear hr22 hC22 hroom22 hi022 hsz22; have KY22 := Aside0.mk hy22; clear hy22; replace q22 := eq_true q22) | ((with_reducible refine gate_builtin (b := .append) (xs := #[.tmp 16, .tmp 19]) rfl ?_); at_builtin; refine Kd.N_append_rows k45 (w0 := w) w.heap.size rfl (.tmp 16) (.tmp 19) 26 45 (.agg #[(.string ⟨#[]⟩), (.slice none 0 0)]) 40 rfl Try.underlying26 info45 rfl (by decide) (by omega) (.slice none 0 0) ([] : List (S45)) y260 _ _ _ (fun k_ => ((P0_ k_ ∨ P2_ k_) ∨ w.heap.size ≤ k_)) (fun k_ => ((fun k_ => ((P0_ k_ ∨ P2_ k_) ∨ w.heap.size ≤ k_))) k_ ∧ some k_ ≠ (.slice none 0 0 : Value).ownBlock) rfl rfl ?aO ?aR (fun _ hk => hk) ?aF ?aB ?aS ?aL ?_; (case aR => exact (by (with_reducible repeat (first | apply Kd.F_alloc | apply Kd.F_drewN | apply Kd.F_drew)); exact Kd.V_F (Kd.V_mono (ok' := (fun k_ => ((fun k_ => ((P0_ k_ ∨ P2_ k_) ∨ w.heap.size ≤ k_))) k_ ∧ some k_ ≠ (.slice none 0 0 : Value).ownBlock)) (HO264.out) (fun k_ hk => ⟨hk, (by simp [Value.ownBlock])⟩)))); (case aB => exact (by repeat (first | (with_reducible first | exact HB.out | apply bA_ | apply bN_ | apply bD_) | exact HB.out))); (case aF => exact (fun k_ hk => (.inr (Nat.le_trans (below_size (by repeat (first | (with_reducible first | exact HB.out | apply bA_ | apply bN_ | apply bD_) | exact HB.out))) hk)))); (case aO => exact ((Kd.N_nil _ _ _ _ (fun k_ => ((P0_ k_ ∨ P2_ k_) ∨ w.heap.size ≤ k_))))); (case aS => exact (below_size (by repeat (first | (with_reducible first | exact HB.out | apply bA_ | apply bN_ | apply bD_) | exact HB.out)))); (case aL => have := LMc7.out; omega); intro v266 w23 ho hb hg hat; rw [← Ny265.out] at ho; have n0_ := Aside0.mk (Kd.V_afterv (Kd.V_apart_nil (by (with_reducible repeat (first | apply vA_ | apply vN_ | apply vD_)); exact HO0.out)) hg hat); have n1_ := Aside0.mk (Kd.V_afterv (Kd.V_apart_nil (by (with_reducible repeat (first | apply vA_ | apply vN_ | apply vD_)); exact HO2.out)) hg hat); have n2_ := Aside0.mk (Kd.V_afterv (Kd.V_apart_nil (by (with_reducible repeat (first | apply vA_ | apply vN_ | apply vD_)); exact HO264.out)) hg hat); have n3_ := Aside0.mk (hb); have n4_ := Aside0.mk (ho); clear HO0; clear HO2; clear HO264; clear HB; have HO0 := n0_; have HO2 := n1_; have HO264 := n2_; have HB := n3_; have HO267 := n4_; clear n0_ n1_ n2_ n3_ n4_; clear ho hb hg hat) | ((with_reducible refine gate_builtin (b := .append) (xs := #[.tmp 21, .tmp 25]) rfl ?_); at_builtin; refine Kd.N_append k45 (w0 := w) w.heap.size rfl (.tmp 21) (.tmp 25) 26 45 (.agg #[(.string ⟨#[]⟩), (.slice none 0 0)]) 40 rfl Try.underlying26 info45 rfl (by decide) (by omega) v266 y265 (⟨a1, l2⟩ : S45) [.string a1, .slice A2 l2.length c2] (fun k_ => ((P0_ k_ ∨ P2_ k_) ∨ w.heap.size ≤ k_)) (fun k_ => ((fun k_ => ((P0_ k_ ∨ P2_ k_) ∨ w.heap.size ≤ k_))) k_ ∧ some k_ ≠ (v266 : Value).ownBlock) rfl rfl ?aP (fun _ hk => hk) ?aF ?aO ?aB ?aS ?aL ?_; (case aP => exact (k45_mkF _ _ (⟨a1, l2⟩ : S45) (Kd.V_reads' (Kd.V_mono (ok' := (fun k_ => ((fun k_ => ((P0_ k_ ∨ P2_ k_) ∨ w.heap.size ≤ k_))) k_ ∧ some k_ ≠ (v266 : Value).ownBlock)) (HO2.out) (fun k_ hk => ⟨hk.1, hk.2⟩))).2.1 (Kd.V_F (Kd.V_mono (ok' := (fun k_ => ((fun k_ => ((P0_ k_ ∨ P2_ k_) ∨ w.heap.size ≤ k_))) k_ ∧ some k_ ≠ (v266 : Value).ownBlock)) (HO2.out) (fun k_ hk => ⟨hk.1, hk.2⟩))))); (case aB => exact (by repeat (first | (with_reducible first | exact HB.out | apply bA_ | apply bN_ | apply bD_) | exact HB.out))); (case aF => exact (fun k_ hk => (.inr (Nat.le_trans (below_size (by repeat (first | (with_reducible first | exact HB.out | apply bA_ | apply bN_ | apply bD_) | exact HB.out))) hk)))); (case aO => exact (by (with_reducible repeat (first | apply nA_ | apply nN_ | apply nD_)); exact HO267.out)); (case aS => exact (below_size (by repeat (first | (with_reducible first | exact HB.out | apply bA_ | apply bN_ | apply bD_) | exact HB.out)))); (case aL => have := LMc8.out; omega); intro v269 w24 ho hb hg hat; rw [← Ny268.out] at ho; have n0_ := Aside0.mk (Kd.V_afterv (ok := (fun k_ => ((P0_ k_ ∨ P2_ k_) ∨ w.heap.size ≤ k_))) (by (with_reducible repeat (first | apply vA_ | apply vN_ | apply vD_)); exact HO0.out) hg hat); have n1_ := Aside0.mk (Kd.V_afterv (ok := (fun k_ => ((P0_ k_ ∨ P2_ k_) ∨ w.heap.size ≤ k_))) (by (with_reducible repeat (first | apply vA_ | apply vN_ | apply vD_)); exact HO2.out) hg hat); have n2_ := Aside0.mk (Kd.V_afterv (ok := (fun k_ => ((P0_ k_ ∨ P2_ k_) ∨ w.heap.size ≤ k_))) (by (with_reducible repeat (first | apply vA_ | apply vN_ | apply vD_)); exact HO264.out) hg hat); have n3_ := Aside0.mk (hb); have n4_ := Aside0.mk (ho); clear HO0; clear HO2; clear HO264; clear HB; clear HO267; have HO0 := n0_; have HO2 := n1_; have HO264 := n2_; have HB := n3_; have HO270 := n4_; clear n0_ n1_ n2_ n3_ n4_; clear ho hb hg hat; have q25 : (t258 : Int) ≤ ((l0.length : Int) : Int) := of_decide_eq_true (by first | (with_reducible assumption) | assumption); obtain ⟨i025, hi025, _, hsz25, _⟩ := info_parts info45; have hroom25 : l0.length ≤ c0 := (Kd.V_reads' HO0.out).2.1; have hC25 : Kd.F k45 _ _ A0 l0.length l0 := (Kd.V_at (base := w.heap.size) HO0.out).2.2; have q025 : (0 : Int) ≤ (t258 : Int) := of_decide_eq_true (by first | (with_reducible assumption) | assumption); have hcut25 := cut_from (P := Try.prog) 26 45 .i64 Try.underlying26 hi025 2 hsz25 A0 l0.length c0 t258 q025 q25; have hr25 := Kd.F_cut (m := (t258 : Int).toNat) (c := c0) hC25 (by omega) hroom25; obtain ⟨A25, hA25⟩ : ∃ A1, A1 = (if c0 = (t258 : Int).toNat then A0 else (A0 : Option Addr).map (·.add ((t258 : Int).toNat * 2))) := ⟨_, rfl⟩; obtain ⟨c25, hc25⟩ : ∃ c1, c1 = c0 - (t258 : Int).toNat := ⟨_, rfl⟩; have hy25 : y279.length = l0.length - (t258 : Int).toNat := (by rw [Ny279.out, List.length_drop] <;> omega); rw [show (l0).drop (t258 : Int).toNat = y279 from Ny279.out.symm] at hr25; replace hr25 : Kd.F k45 _ _ A25 y279.length y279 := (by rw [hA25]; exact hr25); rw [← hy25, ← hA25, ← hc25] at hcut25; have HO283 := Aside0.mk (show Kd.V k45 45 _ w.heap.size _ (.slice A25 y279.length c25) y279 from Kd.V_mk (by rw [hy25, hc25]; exact Nat.sub_le_sub_right hroom25 _) hr25); have HC283 := Aside0.mk (show y279.length ≤ c25 from by rw [hy25, hc25]; exact Nat.sub_le_sub_right hroom25 _); clear hr25 hC25 hroom25 hi025 hsz25 hc25; have KY25 := Aside0.mk hy25; have KA25 := Aside0.mk hA25; clear hy25 hA25; replace q25 := eq_true q25) | ((with_reducible refine gate_builtin (b := .append) (xs := #[.tmp 30, .tmp 33]) rfl ?_); at_builtin; refine Kd.N_append_rows k45 (w0 := w) w.heap.size rfl (.tmp 30) (.tmp 33) 26 45 (.agg #[(.string ⟨#[]⟩), (.slice none 0 0)]) 40 rfl Try.underlying26 info45 rfl (by decide) (by omega) v269 y268 y279 _ _ _ (fun k_ => ((P0_ k_ ∨ P2_ k_) ∨ w.heap.size ≤ k_)) (fun k_ => ((fun k_ => ((P0_ k_ ∨ P2_ k_) ∨ w.heap.size ≤ k_))) k_ ∧ some k_ ≠ (v269 : Value).ownBlock) rfl rfl ?aO ?aR (fun _ hk => hk) ?aF ?aB ?aS ?aL ?_; (case aR => exact (by (with_reducible repeat (first | apply Kd.F_alloc | apply Kd.F_drewN | apply Kd.F_drew)); exact Kd.V_F (Kd.V_mono (ok' := (fun k_ => ((fun k_ => ((P0_ k_ ∨ P2_ k_) ∨ w.heap.size ≤ k_))) k_ ∧ some k_ ≠ (v269 : Value).ownBlock)) (HO283.out) (fun k_ hk => ⟨hk.1, hk.2⟩)))); (case aB => exact (by repeat (first | (with_reducible first | exact HB.out | apply bA_ | apply bN_ | apply bD_) | exact HB.out))); (case aF => exact (fun k_ hk => (.inr (Nat.le_trans (below_size (by repeat (first | (with_reducible first | exact HB.out | apply bA_ | apply bN_ | apply bD_) | exact HB.out))) hk)))); (case aO => exact (by (with_reducible repeat (first | apply nA_ | apply nN_ | apply nD_)); exact HO270.out)); (case aS => exact (below_size (by repeat (first | (with_reducible first | exact HB.out | apply bA_ | apply bN_ | apply bD_) | exact HB.out)))); (case aL => have := LMc21.out; omega); intro v285 w26 ho hb hg hat; rw [← Ny284.out] at ho; have n0_ := Aside0.mk (Kd.V_afterv (ok := (fun k_ => ((P0_ k_ ∨ P2_ k_) ∨ w.heap.size ≤ k_))) (by (with_reducible repeat (first | apply vA_ | apply vN_ | apply vD_)); exact HO0.out) hg hat); have n1_ := Aside0.mk (Kd.V_afterv (ok := (fun k_ => ((P0_ k_ ∨ P2_ k_) ∨ w.heap.size ≤ k_))) (by (with_reducible repeat (first | apply vA_ | apply vN_ | apply vD_)); exact HO2.out) hg hat); have n2_ := Aside0.mk (Kd.V_afterv (ok := (fun k_ => ((P0_ k_ ∨ P2_ k_) ∨ w.heap.size ≤ k_))) (by (with_reducible repeat (first | apply vA_ | apply vN_ | apply vD_)); exact HO264.out) hg hat); have n3_ := Aside0.mk (Kd.V_afterv (ok := (fun k_ => ((P0_ k_ ∨ P2_ k_) ∨ w.heap.size ≤ k_))) (by (with_reducible repeat (first | apply vA_ | apply vN_ | apply vD_)); exact HO283.out) hg hat); have n4_ := Aside0.mk (hb); have n5_ := Aside0.mk (ho); clear HO0; clear HO2; clear HO264; clear HO283; clear HB; clear HO270; have HO0 := n0_; have HO2 := n1_; have HO264 := n2_; have HO283 := n3_; have HB := n4_; have HO286 := n5_; clear n0_ n1_ n2_ n3_ n4_ n5_; clear ho hb hg hat))
              go_ret
              exact ⟨_, by first | rfl | (simp [errW_none, errW_some] <;> rfl) | (simp [*, errW_none, errW_some] <;> rfl), by (with_reducible repeat (first | apply nA_ | apply nN_ | apply nD_)); exact HO286.out, by repeat (first | (with_reducible first | exact HB.out | apply bA_ | apply bN_ | apply bD_) | exact HB.out)⟩
            · rw [if_neg c21] at H
              exact absurd H (by simp)
        · rw [if_neg c8] at H
          exact absurd H (by simp)
      · rw [if_neg c7] at H
        exact absurd H (by simp)
    · rw [if_neg c6] at H
      exact absurd H (by simp)
  · rw [if_neg c5] at H
    exact absurd H (by simp)

end Go.Proofs.Ytbhgocpenbibgaa.PX
-- written by wip/tools/hybrid.py (over the kit's print.py, with functions proved by hand beside it) for this claim
namespace Go.Proofs.Ytbhgocpenbibgaa.PX
open Go.RowKit Go.Proofs.YtbhgocpenbibgaaW.PrintWords Go.Proofs.YtbhgocpenbibgaaW.PrintLast Go.Proofs.YtbhgocpenbibgaaW.PrintMore
attribute [local go_sem] max2_int min2_int max_two min_two max_three min_three max_four min_four   -- for this text's walks alone
set_option linter.unusedVariables false
set_option linter.unusedSimpArgs false

/-! ### cadenceref2_Same: function 17 -/
mutual
def cadenceref2_Same.l0 : Nat → List (S45) → List (S45) → Int → Option (Bool)
  | 0, _, _, _ => none
  | k + 1, x0, x1, x5 => if x5 < (x0.length : Int) then (if 0 ≤ x5 then (if x5 < (x1.length : Int) then (if ((rd_T45 x0 x5).f0).toList = ((rd_T45 x1 x5).f0).toList then ((cadenceref2_Same.f k ((rd_T45 x0 x5).f1) ((rd_T45 x1 x5).f1)).bind fun t452 => (if t452 = true then (cadenceref2_Same.l0 k x0 x1 (wrap64 (x5 + 1))) else (some false))) else (some false)) else (none)) else (none)) else (some true)
def cadenceref2_Same.f : Nat → List (S45) → List (S45) → Option (Bool)
  | 0, _, _ => none
  | k + 1, l0, l1 => if (l0.length : Int) = (l1.length : Int) then (cadenceref2_Same.l0 k l0 l1 0) else (some false)
end
theorem cadenceref2_Same.mono_l : ∀ k, (∀ y0 y1, LeO (cadenceref2_Same.f k y0 y1) (cadenceref2_Same.f (k + 1) y0 y1)) ∧ (∀ y0 y1 y2, LeO (cadenceref2_Same.l0 k y0 y1 y2) (cadenceref2_Same.l0 (k + 1) y0 y1 y2))
  | 0 => ⟨fun _ _ r h => by simp [cadenceref2_Same.f] at h, fun _ _ _ r h => by simp [cadenceref2_Same.l0] at h⟩
  | k + 1 => by
    obtain ⟨ih0, ih1⟩ := cadenceref2_Same.mono_l k
    refine ⟨?_, ?_⟩
    · intro y0 y1
      unfold cadenceref2_Same.f
      repeat' first
      | (with_reducible exact ih0 _ _)
      | (with_reducible exact ih1 _ _ _)
      | (with_reducible exact LeO.refl _)
      | (with_reducible exact LeO.none _)
      | (with_reducible refine LeO.ite ?_ ?_)
      | (with_reducible refine LeO.bind ?_ (fun _ => ?_))
      | exact ih0 _ _
      | exact ih1 _ _ _
      | exact LeO.none _
      | refine LeO.ite ?_ ?_
      | refine LeO.bind ?_ (fun _ => ?_)
    · intro y0 y1 y2
      unfold cadenceref2_Same.l0
      repeat' first
      | (with_reducible exact ih0 _ _)
      | (with_reducible exact ih1 _ _ _)
      | (with_reducible exact LeO.refl _)
      | (with_reducible exact LeO.none _)
      | (with_reducible refine LeO.ite ?_ ?_)
      | (with_reducible refine LeO.bind ?_ (fun _ => ?_))
      | exact ih0 _ _
      | exact ih1 _ _ _
      | exact LeO.none _
      | refine LeO.ite ?_ ?_
      | refine LeO.bind ?_ (fun _ => ?_)
theorem cadenceref2_Same.mono : ∀ a0 a1 k, LeO (cadenceref2_Same.f k a0 a1) (cadenceref2_Same.f (k + 1) a0 a1) := by
  intro a0 a1 k
  obtain ⟨ih0, ih1⟩ := cadenceref2_Same.mono_l k
  exact ih0 a0 a1
def cadenceref2_Same.T6 : Bool × List (List Nat × List Nat) := (true, [([], []), ([], []), ([0, 1], [0, 1]), ([2], [2]), ([3], [3]), ([], []), ([], []), ([5, 6], [5, 6]), ([7], [7]), ([8], [8]), ([4, 9], [4, 9]), ([10], [10]), ([11], [11]), ([11], [11]), ([12, 13, 11], [11, 12, 13]), ([14, 11], [11, 14]), ([15, 11], [11, 15]), ([11], [11]), ([11], [11]), ([17, 18, 11], [11, 17, 18]), ([19, 11], [11, 19]), ([20, 11], [11, 20]), ([16, 21, 11, 11], [11, 16, 21]), ([22, 11], [11, 22]), ([11, 23], [11, 23])])
def cadenceref2_Same.B6 : List Nat := [0, 0, 3, 7, 15, 0, 0, 96, 224, 480, 1023, 2047, 4095, 4095, 16383, 32767, 65535, 4095, 4095, 397311, 921599, 1970175, 4194303, 8388607, 16777215]
theorem cadenceref2_Same.tab6 : rtab .any (opsOf Try.f17 6) = cadenceref2_Same.T6 := by kernel_rfl
theorem cadenceref2_Same.bits6 : waitsOk cadenceref2_Same.T6.2 cadenceref2_Same.B6 = true := by kernel_rfl
set_option maxHeartbeats 8000000 in
set_option maxRecDepth 100000 in
theorem cadenceref2_Same.calls (k : Nat) : ∀ (A0 : Option Addr) (c0 : Nat) (l0 : List (S45)) (A1 : Option Addr) (c1 : Nat) (l1 : List (S45)) (r : Bool) (w : World) (hr0 : Kd.C k45 w A0 l0.length l0) (hc0 : l0.length ≤ c0) (hr1 : Kd.C k45 w A1 l1.length l1) (hc1 : l1.length ≤ c1) (h : cadenceref2_Same.f k l0 l1 = some r),
    Calls Try.prog 17 #[.slice A0 l0.length c0, .slice A1 l1.length c1] w fun e w' => e = .returned (.bool r) ∧ Below w.heap.size w w' := by
  induction k using Nat.strongRecOn with
  | _ k ih =>
  intro A0 c0 l0 A1 c1 l1 r w hr0 hc0 hr1 hc1 h
  cases k with
  | zero => exact absurd h (by simp [cadenceref2_Same.f])
  | succ k =>
  simp only [cadenceref2_Same.f] at h
  have HR0 := Aside0.mk hr0
  have HC0 := Aside0.mk hc0
  clear hr0 hc0
  have HR1 := Aside0.mk hr1
  have HC1 := Aside0.mk hc1
  clear hr1 hc1
  have HB := Aside0.mk (Below.refl w.heap.size w)
  have H : (if (l0.length : Int) = (l1.length : Int) then (cadenceref2_Same.l0 k l0 l1 0) else (some false)) = some r := h
  clear h
  by_cases c3 : (l0.length : Int) = (l1.length : Int)
  · rw [if_pos c3] at H
    have c3b0 : ((l0.length : Int) == (l1.length : Int)) = true := beq_iff_eq.mpr c3
    have c3b1 : ((l0.length : Int) != (l1.length : Int)) = false := bne_eq_false_iff_eq.mpr c3
    have c3b2 : (l0.length == l1.length) = true := by first | simpa using c3 | (simp at c3 ⊢; omega)
    clear c3
    have H' := Aside0.mk H
    clear H
    go_enter Try.func17, Try.ntmps17
    go_wp2
    go_loopg [5] k (fun kq v5 w' => ∃ (x5_1 : Int), v5 = .int .i64 x5_1 ∧ Aside0 (cadenceref2_Same.l0 kq l0 l1 x5_1 = some r) ∧ Aside0 (kq ≤ k) ∧ Aside0 (Below w.heap.size w w'))
    case atStart => exact ⟨(0), (by first | rfl | (simp; done) | (simp [*]; done)), H', ⟨Nat.le_refl _⟩, ⟨by repeat (first | (with_reducible first | exact HB.out | apply bA_ | apply bN_ | apply bD_) | exact HB.out)⟩⟩
    case round =>
      clear H'
      try clear c1
      try clear p2
      try clear c3
      try clear c3b0
      try clear c3b1
      try clear c3b2
      obtain ⟨x5_1, rfl, HA, HK1, HB⟩ := hrel
      cases gk with
      | zero => exact absurd HA.out (by simp [cadenceref2_Same.l0])
      | succ k1 =>
        have H := HA.out
        clear HA
        simp only [cadenceref2_Same.l0] at H
        by_cases c4 : x5_1 < (l0.length : Int)
        · rw [if_pos c4] at H
          have c4b0 : decide (x5_1 < (l0.length : Int)) = true := decide_eq_true c4
          clear c4
          by_cases c5 : 0 ≤ x5_1
          · rw [if_pos c5] at H
            have c5b0 : decide (0 ≤ x5_1) = true := decide_eq_true c5
            clear c5
            by_cases c6 : x5_1 < (l1.length : Int)
            · rw [if_pos c6] at H
              have c6b0 : decide (x5_1 < (l1.length : Int)) = true := decide_eq_true c6
              clear c6
              by_cases c7 : ((rd_T45 l0 x5_1).f0).toList = ((rd_T45 l1 x5_1).f0).toList
              · rw [if_pos c7] at H
                have c7b0 : (((rd_T45 l0 x5_1).f0).toList == ((rd_T45 l1 x5_1).f0).toList) = true := beq_iff_eq.mpr c7
                have c7b1 : (((rd_T45 l0 x5_1).f0).toList != ((rd_T45 l1 x5_1).f0).toList) = false := bne_eq_false_iff_eq.mpr c7
                clear c7
                replace H := Option.bind_eq_some_iff.mp H
                obtain ⟨t452, A80, H⟩ := H
                replace H : (if t452 = true then (cadenceref2_Same.l0 k1 l0 l1 (wrap64 (x5_1 + 1))) else (some false)) = some r := H
                have A8 := Aside0.mk A80
                clear A80
                by_cases c9 : t452 = true
                · subst c9
                  have H1 : (cadenceref2_Same.l0 k1 l0 l1 (wrap64 (x5_1 + 1))) = some r := by rw [if_pos rfl] at H; exact H
                  clear H
                  have H := H1
                  clear H1
                  have H' := Aside0.mk H
                  clear H
                  try go_wp2
                  have n0_ := Aside0.mk (bD_ HB.out)
                  clear HB
                  have HB := n0_
                  clear n0_
                  have p448 : 0 ≤ (x5_1 : Int) := of_decide_eq_true (by first | (with_reducible assumption) | assumption)
                  have q448 : x5_1 < (l0.length : Int) := of_decide_eq_true (by first | (with_reducible assumption) | assumption)
                  obtain ⟨ad448, A448_1, c448_1, e448, hx448_0, hx448_1, hl448_1, hi448_1⟩ := at_T45 HR0.out x5_1 p448 q448
                  have hw448_1 := hx448_1
                  have hw448_0 := hx448_0
                  cases e448
                  replace hx448_0 := (HB.out.cell (World.block_lt_of_cell? w _ hx448_0)).trans hx448_0
                  replace hx448_1 := (HB.out.cell (World.block_lt_of_cell? w _ hx448_1)).trans hx448_1
                  have HR448_1 := Aside0.mk hi448_1
                  have HC448_1 := Aside0.mk hl448_1
                  clear hi448_1 hl448_1
                  replace p448 := eq_true p448
                  replace q448 := eq_true q448
                  have p449 : 0 ≤ (x5_1 : Int) := of_decide_eq_true (by first | (with_reducible assumption) | assumption)
                  have q449 : x5_1 < (l1.length : Int) := of_decide_eq_true (by first | (with_reducible assumption) | assumption)
                  obtain ⟨ad449, A449_1, c449_1, e449, hx449_0, hx449_1, hl449_1, hi449_1⟩ := at_T45 HR1.out x5_1 p449 q449
                  have hw449_1 := hx449_1
                  have hw449_0 := hx449_0
                  cases e449
                  replace hx449_0 := (HB.out.cell (World.block_lt_of_cell? w _ hx449_0)).trans hx449_0
                  replace hx449_1 := (HB.out.cell (World.block_lt_of_cell? w _ hx449_1)).trans hx449_1
                  have HR449_1 := Aside0.mk hi449_1
                  have HC449_1 := Aside0.mk hl449_1
                  clear hi449_1 hl449_1
                  replace p449 := eq_true p449
                  replace q449 := eq_true q449
                  have p450 : 0 ≤ (x5_1 : Int) := of_decide_eq_true (by first | (with_reducible assumption) | assumption)
                  have q450 : x5_1 < (l0.length : Int) := of_decide_eq_true (by first | (with_reducible assumption) | assumption)
                  obtain ⟨ad450, A450_1, c450_1, e450, hx450_0, hx450_1, hl450_1, hi450_1⟩ := at_T45 HR0.out x5_1 p450 q450
                  have hw450_1 := hx450_1
                  have hw450_0 := hx450_0
                  obtain rfl : ad448 = ad450 := (by injection e450)
                  replace hx450_0 := (HB.out.cell (World.block_lt_of_cell? w _ hx450_0)).trans hx450_0
                  replace hx450_1 := (HB.out.cell (World.block_lt_of_cell? w _ hx450_1)).trans hx450_1
                  have HR450_1 := Aside0.mk hi450_1
                  have HC450_1 := Aside0.mk hl450_1
                  clear hi450_1 hl450_1
                  replace p450 := eq_true p450
                  replace q450 := eq_true q450
                  have ea_ := Option.some.inj (hx448_1.symm.trans hx450_1)
                  injection ea_ with ea_ en_ ec_
                  subst ea_
                  subst ec_
                  clear en_
                  have p451 : 0 ≤ (x5_1 : Int) := of_decide_eq_true (by first | (with_reducible assumption) | assumption)
                  have q451 : x5_1 < (l1.length : Int) := of_decide_eq_true (by first | (with_reducible assumption) | assumption)
                  obtain ⟨ad451, A451_1, c451_1, e451, hx451_0, hx451_1, hl451_1, hi451_1⟩ := at_T45 HR1.out x5_1 p451 q451
                  have hw451_1 := hx451_1
                  have hw451_0 := hx451_0
                  obtain rfl : ad449 = ad451 := (by injection e451)
                  replace hx451_0 := (HB.out.cell (World.block_lt_of_cell? w _ hx451_0)).trans hx451_0
                  replace hx451_1 := (HB.out.cell (World.block_lt_of_cell? w _ hx451_1)).trans hx451_1
                  have HR451_1 := Aside0.mk hi451_1
                  have HC451_1 := Aside0.mk hl451_1
                  clear hi451_1 hl451_1
                  replace p451 := eq_true p451
                  replace q451 := eq_true q451
                  have ea_ := Option.some.inj (hx449_1.symm.trans hx451_1)
                  injection ea_ with ea_ en_ ec_
                  subst ea_
                  subst ec_
                  clear en_
                  refine start_ (n := 25) (S := fun w' => w'.cell? (ad448.add ((x5_1).toNat * 2)) = some (.string ((rd_T45 l0 x5_1).f0)) ∧ w'.cell? ⟨(ad448.add ((x5_1).toNat * 2)).block, (ad448.add ((x5_1).toNat * 2)).off + 1, none⟩ = some (.slice A448_1 ((rd_T45 l0 x5_1).f1).length c448_1) ∧ w'.cell? (ad449.add ((x5_1).toNat * 2)) = some (.string ((rd_T45 l1 x5_1).f0)) ∧ w'.cell? ⟨(ad449.add ((x5_1).toNat * 2)).block, (ad449.add ((x5_1).toNat * 2)).off + 1, none⟩ = some (.slice A449_1 ((rd_T45 l1 x5_1).f1).length c449_1) ∧ w'.cell? (ad448.add ((x5_1).toNat * 2)) = some (.string ((rd_T45 l0 x5_1).f0)) ∧ w'.cell? ⟨(ad448.add ((x5_1).toNat * 2)).block, (ad448.add ((x5_1).toNat * 2)).off + 1, none⟩ = some (.slice A448_1 ((rd_T45 l0 x5_1).f1).length c448_1) ∧ w'.cell? (ad449.add ((x5_1).toNat * 2)) = some (.string ((rd_T45 l1 x5_1).f0)) ∧ w'.cell? ⟨(ad449.add ((x5_1).toNat * 2)).block, (ad449.add ((x5_1).toNat * 2)).off + 1, none⟩ = some (.slice A449_1 ((rd_T45 l1 x5_1).f1).length c449_1)) (ds := []) #[false, false, false, false, false, false, false, false, false, false, false, false, false, false, false, false, false, false, false, false, false, false, false, false, false] (by kernel_rfl) rfl rfl ⟨((HB.out.cell (World.block_lt_of_cell? w _ hw448_0)).trans hw448_0), ((HB.out.cell (World.block_lt_of_cell? w _ hw448_1)).trans hw448_1), ((HB.out.cell (World.block_lt_of_cell? w _ hw449_0)).trans hw449_0), ((HB.out.cell (World.block_lt_of_cell? w _ hw449_1)).trans hw449_1), ((HB.out.cell (World.block_lt_of_cell? w _ hw450_0)).trans hw450_0), ((HB.out.cell (World.block_lt_of_cell? w _ hw450_1)).trans hw450_1), ((HB.out.cell (World.block_lt_of_cell? w _ hw451_0)).trans hw451_0), ((HB.out.cell (World.block_lt_of_cell? w _ hw451_1)).trans hw451_1)⟩ (fun hHeld => ?_); refine with_tabW cadenceref2_Same.tab6 cadenceref2_Same.bits6 (fun HT_ HW_ => ?_)
                  generalize wr.drew = w10 at HB HR448_1 HR449_1 HR450_1 HR451_1 hx448_0 hx448_1 hx449_0 hx449_1 hx450_0 hx450_1 hx451_0 hx451_1 hHeld ⊢
                  refine pure_ (i := 0) (N := some 17) (v := ?_) (a' := ?_) #[true, false, false, false, false, false, false, false, false, false, false, false, false, false, false, false, false, false, false, false, false, false, false, false, false] rfl rfl (any_of HT_.out (by kernel_rfl)) (fun _ _ _ h => h) (Or.inl ⟨by rfl, ?_⟩) ?_ ?_
                  rotate_left
                  · intro w'
                    go_simp
                    with_reducible rfl
                  rotate_left
                  · simp only [Act.put, List.setIfInBounds_toArray, List.set_cons_zero, List.set_cons_succ, i64_w, i32_w]
                    rfl
                  refine pure_ (i := 1) (N := some 18) (v := ?_) (a' := ?_) #[true, true, false, false, false, false, false, false, false, false, false, false, false, false, false, false, false, false, false, false, false, false, false, false, false] rfl rfl (any_of HT_.out (by kernel_rfl)) (fun _ _ _ h => h) (Or.inl ⟨by rfl, ?_⟩) ?_ ?_
                  rotate_left
                  · intro w'
                    go_simp
                    with_reducible rfl
                  rotate_left
                  · simp only [Act.put, List.setIfInBounds_toArray, List.set_cons_zero, List.set_cons_succ, i64_w, i32_w]
                    rfl
                  refine pure_ (i := 2) (N := some 19) (v := ?_) (a' := ?_) #[true, true, true, false, false, false, false, false, false, false, false, false, false, false, false, false, false, false, false, false, false, false, false, false, false] rfl rfl (any_of HT_.out (by kernel_rfl)) (fun _ _ _ h => h) (Or.inl ⟨by rfl, ?_⟩) ?_ ?_
                  rotate_left
                  · intro w'
                    go_simp
                    with_reducible rfl
                  rotate_left
                  · simp only [Act.put, List.setIfInBounds_toArray, List.set_cons_zero, List.set_cons_succ, i64_w, i32_w]
                    rfl
                  refine pure_ (i := 3) (N := some 20) (v := ?_) (a' := ?_) #[true, true, true, true, false, false, false, false, false, false, false, false, false, false, false, false, false, false, false, false, false, false, false, false, false] rfl rfl (any_of HT_.out (by kernel_rfl)) (fun _ _ _ h => h) (Or.inl ⟨by rfl, ?_⟩) ?_ ?_
                  rotate_left
                  · intro w'
                    go_simp
                    with_reducible rfl
                  rotate_left
                  · simp only [Act.put, List.setIfInBounds_toArray, List.set_cons_zero, List.set_cons_succ, i64_w, i32_w]
                    rfl
                  refine pure_ (i := 5) (N := some 22) (v := ?_) (a' := ?_) #[true, true, true, true, false, true, false, false, false, false, false, false, false, false, false, false, false, false, false, false, false, false, false, false, false] rfl rfl (any_of HT_.out (by kernel_rfl)) (fun _ _ _ h => h) (Or.inl ⟨by rfl, ?_⟩) ?_ ?_
                  rotate_left
                  · intro w'
                    go_simp
                    with_reducible rfl
                  rotate_left
                  · simp only [Act.put, List.setIfInBounds_toArray, List.set_cons_zero, List.set_cons_succ, i64_w, i32_w]
                    rfl
                  refine pure_ (i := 6) (N := some 23) (v := ?_) (a' := ?_) #[true, true, true, true, false, true, true, false, false, false, false, false, false, false, false, false, false, false, false, false, false, false, false, false, false] rfl rfl (any_of HT_.out (by kernel_rfl)) (fun _ _ _ h => h) (Or.inl ⟨by rfl, ?_⟩) ?_ ?_
                  rotate_left
                  · intro w'
                    go_simp
                    with_reducible rfl
                  rotate_left
                  · simp only [Act.put, List.setIfInBounds_toArray, List.set_cons_zero, List.set_cons_succ, i64_w, i32_w]
                    rfl
                  refine pure_ (i := 7) (N := some 24) (v := ?_) (a' := ?_) #[true, true, true, true, false, true, true, true, false, false, false, false, false, false, false, false, false, false, false, false, false, false, false, false, false] rfl rfl (any_of HT_.out (by kernel_rfl)) (fun _ _ _ h => h) (Or.inl ⟨by rfl, ?_⟩) ?_ ?_
                  rotate_left
                  · intro w'
                    go_simp
                    with_reducible rfl
                  rotate_left
                  · simp only [Act.put, List.setIfInBounds_toArray, List.set_cons_zero, List.set_cons_succ, i64_w, i32_w]
                    rfl
                  refine pure_ (i := 8) (N := some 25) (v := ?_) (a' := ?_) #[true, true, true, true, false, true, true, true, true, false, false, false, false, false, false, false, false, false, false, false, false, false, false, false, false] rfl rfl (any_of HT_.out (by kernel_rfl)) (fun _ _ _ h => h) (Or.inl ⟨by rfl, ?_⟩) ?_ ?_
                  rotate_left
                  · intro w'
                    go_simp
                    with_reducible rfl
                  rotate_left
                  · simp only [Act.put, List.setIfInBounds_toArray, List.set_cons_zero, List.set_cons_succ, i64_w, i32_w]
                    rfl
                  refine take_ (i := 4) (N := some 21) (v := ?_) (a' := ?_) #[true, true, true, true, true, true, true, true, true, false, false, false, false, false, false, false, false, false, false, false, false, false, false, false, false] rfl rfl (take_ofW HT_.out HW_.out (by kernel_rfl)) (fun _ _ _ h => h) (Or.inl ⟨by rfl, ?_⟩) hHeld ?_ ?_
                  rotate_left
                  · rintro w' ⟨s0, s1, s2, s3, s4, s5, s6, s7⟩
                    go_simp
                    with_reducible rfl
                  rotate_left
                  · simp only [Act.put, List.setIfInBounds_toArray, List.set_cons_zero, List.set_cons_succ, i64_w, i32_w]
                    rfl
                  refine take_ (i := 9) (N := some 26) (v := ?_) (a' := ?_) #[true, true, true, true, true, true, true, true, true, true, false, false, false, false, false, false, false, false, false, false, false, false, false, false, false] rfl rfl (take_ofW HT_.out HW_.out (by kernel_rfl)) (fun _ _ _ h => h) (Or.inl ⟨by rfl, ?_⟩) hHeld ?_ ?_
                  rotate_left
                  · rintro w' ⟨s0, s1, s2, s3, s4, s5, s6, s7⟩
                    go_simp
                    with_reducible rfl
                  rotate_left
                  · simp only [Act.put, List.setIfInBounds_toArray, List.set_cons_zero, List.set_cons_succ, i64_w, i32_w]
                    rfl
                  refine pure_ (i := 10) (N := some 27) (v := ?_) (a' := ?_) #[true, true, true, true, true, true, true, true, true, true, true, false, false, false, false, false, false, false, false, false, false, false, false, false, false] rfl rfl (any_of HT_.out (by kernel_rfl)) (fun _ _ _ h => h) (Or.inl ⟨by rfl, ?_⟩) ?_ ?_
                  rotate_left
                  · intro w'
                    go_simp
                    with_reducible rfl
                  rotate_left
                  · simp only [Act.put, List.setIfInBounds_toArray, List.set_cons_zero, List.set_cons_succ, i64_w, i32_w]
                    rfl
                  refine pure_ (i := 11) (N := some 28) (v := ?_) (a' := ?_) #[true, true, true, true, true, true, true, true, true, true, true, true, false, false, false, false, false, false, false, false, false, false, false, false, false] rfl rfl (any_of HT_.out (by kernel_rfl)) (fun _ _ _ h => h) (Or.inl ⟨by rfl, ?_⟩) ?_ ?_
                  rotate_left
                  · intro w'
                    go_simp
                    with_reducible rfl
                  rotate_left
                  · simp only [Act.put, List.setIfInBounds_toArray, List.set_cons_zero, List.set_cons_succ, i64_w, i32_w]
                    rfl
                  refine pure_ (i := 12) (N := some 29) (v := ?_) (a' := ?_) #[true, true, true, true, true, true, true, true, true, true, true, true, true, false, false, false, false, false, false, false, false, false, false, false, false] rfl rfl (any_of HT_.out (by kernel_rfl)) (fun _ _ _ h => h) (Or.inl ⟨by rfl, ?_⟩) ?_ ?_
                  rotate_left
                  · intro w'
                    go_simp
                    with_reducible rfl
                  rotate_left
                  · simp only [Act.put, List.setIfInBounds_toArray, List.set_cons_zero, List.set_cons_succ, i64_w, i32_w]
                    rfl
                  refine pure_ (i := 13) (N := some 30) (v := ?_) (a' := ?_) #[true, true, true, true, true, true, true, true, true, true, true, true, true, true, false, false, false, false, false, false, false, false, false, false, false] rfl rfl (any_of HT_.out (by kernel_rfl)) (fun _ _ _ h => h) (Or.inl ⟨by rfl, ?_⟩) ?_ ?_
                  rotate_left
                  · intro w'
                    go_simp
                    with_reducible rfl
                  rotate_left
                  · simp only [Act.put, List.setIfInBounds_toArray, List.set_cons_zero, List.set_cons_succ, i64_w, i32_w]
                    rfl
                  refine pure_ (i := 14) (N := some 31) (v := ?_) (a' := ?_) #[true, true, true, true, true, true, true, true, true, true, true, true, true, true, true, false, false, false, false, false, false, false, false, false, false] rfl rfl (any_of HT_.out (by kernel_rfl)) (fun _ _ _ h => h) (Or.inl ⟨by rfl, ?_⟩) ?_ ?_
                  rotate_left
                  · intro w'
                    go_simp
                    with_reducible rfl
                  rotate_left
                  · simp only [Act.put, List.setIfInBounds_toArray, List.set_cons_zero, List.set_cons_succ, i64_w, i32_w]
                    rfl
                  refine pure_ (i := 15) (N := some 32) (v := ?_) (a' := ?_) #[true, true, true, true, true, true, true, true, true, true, true, true, true, true, true, true, false, false, false, false, false, false, false, false, false] rfl rfl (any_of HT_.out (by kernel_rfl)) (fun _ _ _ h => h) (Or.inl ⟨by rfl, ?_⟩) ?_ ?_
                  rotate_left
                  · intro w'
                    go_simp
                    with_reducible rfl
                  rotate_left
                  · simp only [Act.put, List.setIfInBounds_toArray, List.set_cons_zero, List.set_cons_succ, i64_w, i32_w]
                    rfl
                  refine pure_ (i := 17) (N := some 34) (v := ?_) (a' := ?_) #[true, true, true, true, true, true, true, true, true, true, true, true, true, true, true, true, false, true, false, false, false, false, false, false, false] rfl rfl (any_of HT_.out (by kernel_rfl)) (fun _ _ _ h => h) (Or.inl ⟨by rfl, ?_⟩) ?_ ?_
                  rotate_left
                  · intro w'
                    go_simp
                    with_reducible rfl
                  rotate_left
                  · simp only [Act.put, List.setIfInBounds_toArray, List.set_cons_zero, List.set_cons_succ, i64_w, i32_w]
                    rfl
                  refine pure_ (i := 18) (N := some 35) (v := ?_) (a' := ?_) #[true, true, true, true, true, true, true, true, true, true, true, true, true, true, true, true, false, true, true, false, false, false, false, false, false] rfl rfl (any_of HT_.out (by kernel_rfl)) (fun _ _ _ h => h) (Or.inl ⟨by rfl, ?_⟩) ?_ ?_
                  rotate_left
                  · intro w'
                    go_simp
                    with_reducible rfl
                  rotate_left
                  · simp only [Act.put, List.setIfInBounds_toArray, List.set_cons_zero, List.set_cons_succ, i64_w, i32_w]
                    rfl
                  refine pure_ (i := 19) (N := some 36) (v := ?_) (a' := ?_) #[true, true, true, true, true, true, true, true, true, true, true, true, true, true, true, true, false, true, true, true, false, false, false, false, false] rfl rfl (any_of HT_.out (by kernel_rfl)) (fun _ _ _ h => h) (Or.inl ⟨by rfl, ?_⟩) ?_ ?_
                  rotate_left
                  · intro w'
                    go_simp
                    with_reducible rfl
                  rotate_left
                  · simp only [Act.put, List.setIfInBounds_toArray, List.set_cons_zero, List.set_cons_succ, i64_w, i32_w]
                    rfl
                  refine pure_ (i := 20) (N := some 37) (v := ?_) (a' := ?_) #[true, true, true, true, true, true, true, true, true, true, true, true, true, true, true, true, false, true, true, true, true, false, false, false, false] rfl rfl (any_of HT_.out (by kernel_rfl)) (fun _ _ _ h => h) (Or.inl ⟨by rfl, ?_⟩) ?_ ?_
                  rotate_left
                  · intro w'
                    go_simp
                    with_reducible rfl
                  rotate_left
                  · simp only [Act.put, List.setIfInBounds_toArray, List.set_cons_zero, List.set_cons_succ, i64_w, i32_w]
                    rfl
                  refine take_ (i := 16) (N := some 33) (v := ?_) (a' := ?_) #[true, true, true, true, true, true, true, true, true, true, true, true, true, true, true, true, true, true, true, true, true, false, false, false, false] rfl rfl (take_ofW HT_.out HW_.out (by kernel_rfl)) (fun _ _ _ h => h) (Or.inl ⟨by rfl, ?_⟩) hHeld ?_ ?_
                  rotate_left
                  · rintro w' ⟨s0, s1, s2, s3, s4, s5, s6, s7⟩
                    go_simp
                    with_reducible rfl
                  rotate_left
                  · simp only [Act.put, List.setIfInBounds_toArray, List.set_cons_zero, List.set_cons_succ, i64_w, i32_w]
                    rfl
                  refine take_ (i := 21) (N := some 38) (v := ?_) (a' := ?_) #[true, true, true, true, true, true, true, true, true, true, true, true, true, true, true, true, true, true, true, true, true, true, false, false, false] rfl rfl (take_ofW HT_.out HW_.out (by kernel_rfl)) (fun _ _ _ h => h) (Or.inl ⟨by rfl, ?_⟩) hHeld ?_ ?_
                  rotate_left
                  · rintro w' ⟨s0, s1, s2, s3, s4, s5, s6, s7⟩
                    go_simp
                    with_reducible rfl
                  rotate_left
                  · simp only [Act.put, List.setIfInBounds_toArray, List.set_cons_zero, List.set_cons_succ, i64_w, i32_w]
                    rfl
                  refine one_ (i := 22) (N := some 39) #[true, true, true, true, true, true, true, true, true, true, true, true, true, true, true, true, true, true, true, true, true, true, true, false, false] rfl rfl (one_of HT_.out (by kernel_rfl)) (by decide) (fun K hK => ?_)
                  refine goes_ Try.func17 (by kernel_rfl) rfl #[.slice A448_1 ((rd_T45 l0 x5_1).f1).length c448_1, .slice A449_1 ((rd_T45 l1 x5_1).f1).length c449_1] (by rfl) rfl rfl (by (try simp only [List.map_toArray, List.map_cons, List.map_nil]); first | done | rfl | (simp only [List.length_drop, List.length_take]; rfl)) ?_
                  with_reducible refine (ih k1 (by have := HK1.out; omega) _ _ ((rd_T45 l0 x5_1).f1) _ _ ((rd_T45 l1 x5_1).f1) true _ ?side1 ?side2 ?side3 ?side4 A8.out).mono ?_
                  (case side1 => repeat (first | exact (Kd.C_below HR450_1.out HB.out) | (with_reducible refine cA_ ?_ _) | (with_reducible refine cN_ ?_ _) | (with_reducible refine cD_ ?_)))
                  (case side2 => exact HC450_1.out)
                  (case side3 => repeat (first | exact (Kd.C_below HR451_1.out HB.out) | (with_reducible refine cA_ ?_ _) | (with_reducible refine cN_ ?_ _) | (with_reducible refine cD_ ?_)))
                  (case side4 => exact HC451_1.out)
                  rintro e w11 ⟨rfl, hb⟩
                  refine ⟨_, rfl, ?_⟩
                  have n0_ := Aside0.mk (below_step (by repeat (first | (with_reducible first | exact HB.out | apply bA_ | apply bN_ | apply bD_) | exact HB.out)) hb)
                  clear HB
                  have HB := n0_
                  clear n0_
                  (try clear hb)
                  (try clear hb2)
                  (try clear hk)
                  (try clear hi)
                  refine hK.out _ _ ⟨((HB.out.cell (World.block_lt_of_cell? w _ hw448_0)).trans hw448_0), ((HB.out.cell (World.block_lt_of_cell? w _ hw448_1)).trans hw448_1), ((HB.out.cell (World.block_lt_of_cell? w _ hw449_0)).trans hw449_0), ((HB.out.cell (World.block_lt_of_cell? w _ hw449_1)).trans hw449_1), ((HB.out.cell (World.block_lt_of_cell? w _ hw450_0)).trans hw450_0), ((HB.out.cell (World.block_lt_of_cell? w _ hw450_1)).trans hw450_1), ((HB.out.cell (World.block_lt_of_cell? w _ hw451_0)).trans hw451_0), ((HB.out.cell (World.block_lt_of_cell? w _ hw451_1)).trans hw451_1)⟩ (fun hHeld => ?_)
                  clear hK K
                  refine norm_ (a' := ?_) ?_ ?_
                  rotate_left
                  · show Act.put _ (some 39) _ = _
                    simp only [Act.put, List.setIfInBounds_toArray, List.set_cons_zero, List.set_cons_succ, i64_w, i32_w]
                    rfl
                  refine pure_ (i := 23) (N := some 40) (v := ?_) (a' := ?_) #[true, true, true, true, true, true, true, true, true, true, true, true, true, true, true, true, true, true, true, true, true, true, true, true, false] rfl rfl (any_of HT_.out (by kernel_rfl)) (fun _ _ _ h => h) (Or.inl ⟨by rfl, ?_⟩) ?_ ?_
                  rotate_left
                  · intro w'
                    go_simp
                    with_reducible rfl
                  rotate_left
                  · simp only [Act.put, List.setIfInBounds_toArray, List.set_cons_zero, List.set_cons_succ, i64_w, i32_w]
                    rfl
                  refine pure_ (i := 24) (N := some 41) (v := ?_) (a' := ?_) #[true, true, true, true, true, true, true, true, true, true, true, true, true, true, true, true, true, true, true, true, true, true, true, true, true] rfl rfl (any_of HT_.out (by kernel_rfl)) (fun _ _ _ h => h) (Or.inl ⟨by rfl, ?_⟩) ?_ ?_
                  rotate_left
                  · intro w'
                    go_simp
                    with_reducible rfl
                  rotate_left
                  · simp only [Act.put, List.setIfInBounds_toArray, List.set_cons_zero, List.set_cons_succ, i64_w, i32_w]
                    rfl
                  refine done_ (done_of HT_.out (by kernel_rfl)) ?_
                  try go_wp2
                  go_roundg k1
                  case measure => have := HK1.out; omega
                  case rel => exact ⟨(wrap64 (x5_1 + 1)), (by first | rfl | (simp; done) | (simp [*]; done)), H', ⟨by have := HK1.out; omega⟩, ⟨by repeat (first | (with_reducible first | exact HB.out | apply bA_ | apply bN_ | apply bD_) | exact HB.out)⟩⟩
                · replace c9 := Bool.eq_false_iff.mpr c9
                  subst c9
                  have H1 : (some false) = some r := by rw [if_neg (show ¬ (false = true) by decide)] at H; exact H
                  clear H
                  have H := H1
                  clear H1
                  obtain rfl := Option.some.inj H
                  try go_wp2
                  have n0_ := Aside0.mk (bD_ HB.out)
                  clear HB
                  have HB := n0_
                  clear n0_
                  have p448 : 0 ≤ (x5_1 : Int) := of_decide_eq_true (by first | (with_reducible assumption) | assumption)
                  have q448 : x5_1 < (l0.length : Int) := of_decide_eq_true (by first | (with_reducible assumption) | assumption)
                  obtain ⟨ad448, A448_1, c448_1, e448, hx448_0, hx448_1, hl448_1, hi448_1⟩ := at_T45 HR0.out x5_1 p448 q448
                  have hw448_1 := hx448_1
                  have hw448_0 := hx448_0
                  cases e448
                  replace hx448_0 := (HB.out.cell (World.block_lt_of_cell? w _ hx448_0)).trans hx448_0
                  replace hx448_1 := (HB.out.cell (World.block_lt_of_cell? w _ hx448_1)).trans hx448_1
                  have HR448_1 := Aside0.mk hi448_1
                  have HC448_1 := Aside0.mk hl448_1
                  clear hi448_1 hl448_1
                  replace p448 := eq_true p448
                  replace q448 := eq_true q448
                  have p449 : 0 ≤ (x5_1 : Int) := of_decide_eq_true (by first | (with_reducible assumption) | assumption)
                  have q449 : x5_1 < (l1.length : Int) := of_decide_eq_true (by first | (with_reducible assumption) | assumption)
                  obtain ⟨ad449, A449_1, c449_1, e449, hx449_0, hx449_1, hl449_1, hi449_1⟩ := at_T45 HR1.out x5_1 p449 q449
                  have hw449_1 := hx449_1
                  have hw449_0 := hx449_0
                  cases e449
                  replace hx449_0 := (HB.out.cell (World.block_lt_of_cell? w _ hx449_0)).trans hx449_0
                  replace hx449_1 := (HB.out.cell (World.block_lt_of_cell? w _ hx449_1)).trans hx449_1
                  have HR449_1 := Aside0.mk hi449_1
                  have HC449_1 := Aside0.mk hl449_1
                  clear hi449_1 hl449_1
                  replace p449 := eq_true p449
                  replace q449 := eq_true q449
                  have p450 : 0 ≤ (x5_1 : Int) := of_decide_eq_true (by first | (with_reducible assumption) | assumption)
                  have q450 : x5_1 < (l0.length : Int) := of_decide_eq_true (by first | (with_reducible assumption) | assumption)
                  obtain ⟨ad450, A450_1, c450_1, e450, hx450_0, hx450_1, hl450_1, hi450_1⟩ := at_T45 HR0.out x5_1 p450 q450
                  have hw450_1 := hx450_1
                  have hw450_0 := hx450_0
                  obtain rfl : ad448 = ad450 := (by injection e450)
                  replace hx450_0 := (HB.out.cell (World.block_lt_of_cell? w _ hx450_0)).trans hx450_0
                  replace hx450_1 := (HB.out.cell (World.block_lt_of_cell? w _ hx450_1)).trans hx450_1
                  have HR450_1 := Aside0.mk hi450_1
                  have HC450_1 := Aside0.mk hl450_1
                  clear hi450_1 hl450_1
                  replace p450 := eq_true p450
                  replace q450 := eq_true q450
                  have ea_ := Option.some.inj (hx448_1.symm.trans hx450_1)
                  injection ea_ with ea_ en_ ec_
                  subst ea_
                  subst ec_
                  clear en_
                  have p451 : 0 ≤ (x5_1 : Int) := of_decide_eq_true (by first | (with_reducible assumption) | assumption)
                  have q451 : x5_1 < (l1.length : Int) := of_decide_eq_true (by first | (with_reducible assumption) | assumption)
                  obtain ⟨ad451, A451_1, c451_1, e451, hx451_0, hx451_1, hl451_1, hi451_1⟩ := at_T45 HR1.out x5_1 p451 q451
                  have hw451_1 := hx451_1
                  have hw451_0 := hx451_0
                  obtain rfl : ad449 = ad451 := (by injection e451)
                  replace hx451_0 := (HB.out.cell (World.block_lt_of_cell? w _ hx451_0)).trans hx451_0
                  replace hx451_1 := (HB.out.cell (World.block_lt_of_cell? w _ hx451_1)).trans hx451_1
                  have HR451_1 := Aside0.mk hi451_1
                  have HC451_1 := Aside0.mk hl451_1
                  clear hi451_1 hl451_1
                  replace p451 := eq_true p451
                  replace q451 := eq_true q451
                  have ea_ := Option.some.inj (hx449_1.symm.trans hx451_1)
                  injection ea_ with ea_ en_ ec_
                  subst ea_
                  subst ec_
                  clear en_
                  refine start_ (n := 25) (S := fun w' => w'.cell? (ad448.add ((x5_1).toNat * 2)) = some (.string ((rd_T45 l0 x5_1).f0)) ∧ w'.cell? ⟨(ad448.add ((x5_1).toNat * 2)).block, (ad448.add ((x5_1).toNat * 2)).off + 1, none⟩ = some (.slice A448_1 ((rd_T45 l0 x5_1).f1).length c448_1) ∧ w'.cell? (ad449.add ((x5_1).toNat * 2)) = some (.string ((rd_T45 l1 x5_1).f0)) ∧ w'.cell? ⟨(ad449.add ((x5_1).toNat * 2)).block, (ad449.add ((x5_1).toNat * 2)).off + 1, none⟩ = some (.slice A449_1 ((rd_T45 l1 x5_1).f1).length c449_1) ∧ w'.cell? (ad448.add ((x5_1).toNat * 2)) = some (.string ((rd_T45 l0 x5_1).f0)) ∧ w'.cell? ⟨(ad448.add ((x5_1).toNat * 2)).block, (ad448.add ((x5_1).toNat * 2)).off + 1, none⟩ = some (.slice A448_1 ((rd_T45 l0 x5_1).f1).length c448_1) ∧ w'.cell? (ad449.add ((x5_1).toNat * 2)) = some (.string ((rd_T45 l1 x5_1).f0)) ∧ w'.cell? ⟨(ad449.add ((x5_1).toNat * 2)).block, (ad449.add ((x5_1).toNat * 2)).off + 1, none⟩ = some (.slice A449_1 ((rd_T45 l1 x5_1).f1).length c449_1)) (ds := []) #[false, false, false, false, false, false, false, false, false, false, false, false, false, false, false, false, false, false, false, false, false, false, false, false, false] (by kernel_rfl) rfl rfl ⟨((HB.out.cell (World.block_lt_of_cell? w _ hw448_0)).trans hw448_0), ((HB.out.cell (World.block_lt_of_cell? w _ hw448_1)).trans hw448_1), ((HB.out.cell (World.block_lt_of_cell? w _ hw449_0)).trans hw449_0), ((HB.out.cell (World.block_lt_of_cell? w _ hw449_1)).trans hw449_1), ((HB.out.cell (World.block_lt_of_cell? w _ hw450_0)).trans hw450_0), ((HB.out.cell (World.block_lt_of_cell? w _ hw450_1)).trans hw450_1), ((HB.out.cell (World.block_lt_of_cell? w _ hw451_0)).trans hw451_0), ((HB.out.cell (World.block_lt_of_cell? w _ hw451_1)).trans hw451_1)⟩ (fun hHeld => ?_); refine with_tabW cadenceref2_Same.tab6 cadenceref2_Same.bits6 (fun HT_ HW_ => ?_)
                  generalize wr.drew = w12 at HB HR448_1 HR449_1 HR450_1 HR451_1 hx448_0 hx448_1 hx449_0 hx449_1 hx450_0 hx450_1 hx451_0 hx451_1 hHeld ⊢
                  refine pure_ (i := 0) (N := some 17) (v := ?_) (a' := ?_) #[true, false, false, false, false, false, false, false, false, false, false, false, false, false, false, false, false, false, false, false, false, false, false, false, false] rfl rfl (any_of HT_.out (by kernel_rfl)) (fun _ _ _ h => h) (Or.inl ⟨by rfl, ?_⟩) ?_ ?_
                  rotate_left
                  · intro w'
                    go_simp
                    with_reducible rfl
                  rotate_left
                  · simp only [Act.put, List.setIfInBounds_toArray, List.set_cons_zero, List.set_cons_succ, i64_w, i32_w]
                    rfl
                  refine pure_ (i := 1) (N := some 18) (v := ?_) (a' := ?_) #[true, true, false, false, false, false, false, false, false, false, false, false, false, false, false, false, false, false, false, false, false, false, false, false, false] rfl rfl (any_of HT_.out (by kernel_rfl)) (fun _ _ _ h => h) (Or.inl ⟨by rfl, ?_⟩) ?_ ?_
                  rotate_left
                  · intro w'
                    go_simp
                    with_reducible rfl
                  rotate_left
                  · simp only [Act.put, List.setIfInBounds_toArray, List.set_cons_zero, List.set_cons_succ, i64_w, i32_w]
                    rfl
                  refine pure_ (i := 2) (N := some 19) (v := ?_) (a' := ?_) #[true, true, true, false, false, false, false, false, false, false, false, false, false, false, false, false, false, false, false, false, false, false, false, false, false] rfl rfl (any_of HT_.out (by kernel_rfl)) (fun _ _ _ h => h) (Or.inl ⟨by rfl, ?_⟩) ?_ ?_
                  rotate_left
                  · intro w'
                    go_simp
                    with_reducible rfl
                  rotate_left
                  · simp only [Act.put, List.setIfInBounds_toArray, List.set_cons_zero, List.set_cons_succ, i64_w, i32_w]
                    rfl
                  refine pure_ (i := 3) (N := some 20) (v := ?_) (a' := ?_) #[true, true, true, true, false, false, false, false, false, false, false, false, false, false, false, false, false, false, false, false, false, false, false, false, false] rfl rfl (any_of HT_.out (by kernel_rfl)) (fun _ _ _ h => h) (Or.inl ⟨by rfl, ?_⟩) ?_ ?_
                  rotate_left
                  · intro w'
                    go_simp
                    with_reducible rfl
                  rotate_left
                  · simp only [Act.put, List.setIfInBounds_toArray, List.set_cons_zero, List.set_cons_succ, i64_w, i32_w]
                    rfl
                  refine pure_ (i := 5) (N := some 22) (v := ?_) (a' := ?_) #[true, true, true, true, false, true, false, false, false, false, false, false, false, false, false, false, false, false, false, false, false, false, false, false, false] rfl rfl (any_of HT_.out (by kernel_rfl)) (fun _ _ _ h => h) (Or.inl ⟨by rfl, ?_⟩) ?_ ?_
                  rotate_left
                  · intro w'
                    go_simp
                    with_reducible rfl
                  rotate_left
                  · simp only [Act.put, List.setIfInBounds_toArray, List.set_cons_zero, List.set_cons_succ, i64_w, i32_w]
                    rfl
                  refine pure_ (i := 6) (N := some 23) (v := ?_) (a' := ?_) #[true, true, true, true, false, true, true, false, false, false, false, false, false, false, false, false, false, false, false, false, false, false, false, false, false] rfl rfl (any_of HT_.out (by kernel_rfl)) (fun _ _ _ h => h) (Or.inl ⟨by rfl, ?_⟩) ?_ ?_
                  rotate_left
                  · intro w'
                    go_simp
                    with_reducible rfl
                  rotate_left
                  · simp only [Act.put, List.setIfInBounds_toArray, List.set_cons_zero, List.set_cons_succ, i64_w, i32_w]
                    rfl
                  refine pure_ (i := 7) (N := some 24) (v := ?_) (a' := ?_) #[true, true, true, true, false, true, true, true, false, false, false, false, false, false, false, false, false, false, false, false, false, false, false, false, false] rfl rfl (any_of HT_.out (by kernel_rfl)) (fun _ _ _ h => h) (Or.inl ⟨by rfl, ?_⟩) ?_ ?_
                  rotate_left
                  · intro w'
                    go_simp
                    with_reducible rfl
                  rotate_left
                  · simp only [Act.put, List.setIfInBounds_toArray, List.set_cons_zero, List.set_cons_succ, i64_w, i32_w]
                    rfl
                  refine pure_ (i := 8) (N := some 25) (v := ?_) (a' := ?_) #[true, true, true, true, false, true, true, true, true, false, false, false, false, false, false, false, false, false, false, false, false, false, false, false, false] rfl rfl (any_of HT_.out (by kernel_rfl)) (fun _ _ _ h => h) (Or.inl ⟨by rfl, ?_⟩) ?_ ?_
                  rotate_left
                  · intro w'
                    go_simp
                    with_reducible rfl
                  rotate_left
                  · simp only [Act.put, List.setIfInBounds_toArray, List.set_cons_zero, List.set_cons_succ, i64_w, i32_w]
                    rfl
                  refine take_ (i := 4) (N := some 21) (v := ?_) (a' := ?_) #[true, true, true, true, true, true, true, true, true, false, false, false, false, false, false, false, false, false, false, false, false, false, false, false, false] rfl rfl (take_ofW HT_.out HW_.out (by kernel_rfl)) (fun _ _ _ h => h) (Or.inl ⟨by rfl, ?_⟩) hHeld ?_ ?_
                  rotate_left
                  · rintro w' ⟨s0, s1, s2, s3, s4, s5, s6, s7⟩
                    go_simp
                    with_reducible rfl
                  rotate_left
                  · simp only [Act.put, List.setIfInBounds_toArray, List.set_cons_zero, List.set_cons_succ, i64_w, i32_w]
                    rfl
                  refine take_ (i := 9) (N := some 26) (v := ?_) (a' := ?_) #[true, true, true, true, true, true, true, true, true, true, false, false, false, false, false, false, false, false, false, false, false, false, false, false, false] rfl rfl (take_ofW HT_.out HW_.out (by kernel_rfl)) (fun _ _ _ h => h) (Or.inl ⟨by rfl, ?_⟩) hHeld ?_ ?_
                  rotate_left
                  · rintro w' ⟨s0, s1, s2, s3, s4, s5, s6, s7⟩
                    go_simp
                    with_reducible rfl
                  rotate_left
                  · simp only [Act.put, List.setIfInBounds_toArray, List.set_cons_zero, List.set_cons_succ, i64_w, i32_w]
                    rfl
                  refine pure_ (i := 10) (N := some 27) (v := ?_) (a' := ?_) #[true, true, true, true, true, true, true, true, true, true, true, false, false, false, false, false, false, false, false, false, false, false, false, false, false] rfl rfl (any_of HT_.out (by kernel_rfl)) (fun _ _ _ h => h) (Or.inl ⟨by rfl, ?_⟩) ?_ ?_
                  rotate_left
                  · intro w'
                    go_simp
                    with_reducible rfl
                  rotate_left
                  · simp only [Act.put, List.setIfInBounds_toArray, List.set_cons_zero, List.set_cons_succ, i64_w, i32_w]
                    rfl
                  refine pure_ (i := 11) (N := some 28) (v := ?_) (a' := ?_) #[true, true, true, true, true, true, true, true, true, true, true, true, false, false, false, false, false, false, false, false, false, false, false, false, false] rfl rfl (any_of HT_.out (by kernel_rfl)) (fun _ _ _ h => h) (Or.inl ⟨by rfl, ?_⟩) ?_ ?_
                  rotate_left
                  · intro w'
                    go_simp
                    with_reducible rfl
                  rotate_left
                  · simp only [Act.put, List.setIfInBounds_toArray, List.set_cons_zero, List.set_cons_succ, i64_w, i32_w]
                    rfl
                  refine pure_ (i := 12) (N := some 29) (v := ?_) (a' := ?_) #[true, true, true, true, true, true, true, true, true, true, true, true, true, false, false, false, false, false, false, false, false, false, false, false, false] rfl rfl (any_of HT_.out (by kernel_rfl)) (fun _ _ _ h => h) (Or.inl ⟨by rfl, ?_⟩) ?_ ?_
                  rotate_left
                  · intro w'
                    go_simp
                    with_reducible rfl
                  rotate_left
                  · simp only [Act.put, List.setIfInBounds_toArray, List.set_cons_zero, List.set_cons_succ, i64_w, i32_w]
                    rfl
                  refine pure_ (i := 13) (N := some 30) (v := ?_) (a' := ?_) #[true, true, true, true, true, true, true, true, true, true, true, true, true, true, false, false, false, false, false, false, false, false, false, false, false] rfl rfl (any_of HT_.out (by kernel_rfl)) (fun _ _ _ h => h) (Or.inl ⟨by rfl, ?_⟩) ?_ ?_
                  rotate_left
                  · intro w'
                    go_simp
                    with_reducible rfl
                  rotate_left
                  · simp only [Act.put, List.setIfInBounds_toArray, List.set_cons_zero, List.set_cons_succ, i64_w, i32_w]
                    rfl
                  refine pure_ (i := 14) (N := some 31) (v := ?_) (a' := ?_) #[true, true, true, true, true, true, true, true, true, true, true, true, true, true, true, false, false, false, false, false, false, false, false, false, false] rfl rfl (any_of HT_.out (by kernel_rfl)) (fun _ _ _ h => h) (Or.inl ⟨by rfl, ?_⟩) ?_ ?_
                  rotate_left
                  · intro w'
                    go_simp
                    with_reducible rfl
                  rotate_left
                  · simp only [Act.put, List.setIfInBounds_toArray, List.set_cons_zero, List.set_cons_succ, i64_w, i32_w]
                    rfl
                  refine pure_ (i := 15) (N := some 32) (v := ?_) (a' := ?_) #[true, true, true, true, true, true, true, true, true, true, true, true, true, true, true, true, false, false, false, false, false, false, false, false, false] rfl rfl (any_of HT_.out (by kernel_rfl)) (fun _ _ _ h => h) (Or.inl ⟨by rfl, ?_⟩) ?_ ?_
                  rotate_left
                  · intro w'
                    go_simp
                    with_reducible rfl
                  rotate_left
                  · simp only [Act.put, List.setIfInBounds_toArray, List.set_cons_zero, List.set_cons_succ, i64_w, i32_w]
                    rfl
                  refine pure_ (i := 17) (N := some 34) (v := ?_) (a' := ?_) #[true, true, true, true, true, true, true, true, true, true, true, true, true, true, true, true, false, true, false, false, false, false, false, false, false] rfl rfl (any_of HT_.out (by kernel_rfl)) (fun _ _ _ h => h) (Or.inl ⟨by rfl, ?_⟩) ?_ ?_
                  rotate_left
                  · intro w'
                    go_simp
                    with_reducible rfl
                  rotate_left
                  · simp only [Act.put, List.setIfInBounds_toArray, List.set_cons_zero, List.set_cons_succ, i64_w, i32_w]
                    rfl
                  refine pure_ (i := 18) (N := some 35) (v := ?_) (a' := ?_) #[true, true, true, true, true, true, true, true, true, true, true, true, true, true, true, true, false, true, true, false, false, false, false, false, false] rfl rfl (any_of HT_.out (by kernel_rfl)) (fun _ _ _ h => h) (Or.inl ⟨by rfl, ?_⟩) ?_ ?_
                  rotate_left
                  · intro w'
                    go_simp
                    with_reducible rfl
                  rotate_left
                  · simp only [Act.put, List.setIfInBounds_toArray, List.set_cons_zero, List.set_cons_succ, i64_w, i32_w]
                    rfl
                  refine pure_ (i := 19) (N := some 36) (v := ?_) (a' := ?_) #[true, true, true, true, true, true, true, true, true, true, true, true, true, true, true, true, false, true, true, true, false, false, false, false, false] rfl rfl (any_of HT_.out (by kernel_rfl)) (fun _ _ _ h => h) (Or.inl ⟨by rfl, ?_⟩) ?_ ?_
                  rotate_left
                  · intro w'
                    go_simp
                    with_reducible rfl
                  rotate_left
                  · simp only [Act.put, List.setIfInBounds_toArray, List.set_cons_zero, List.set_cons_succ, i64_w, i32_w]
                    rfl
                  refine pure_ (i := 20) (N := some 37) (v := ?_) (a' := ?_) #[true, true, true, true, true, true, true, true, true, true, true, true, true, true, true, true, false, true, true, true, true, false, false, false, false] rfl rfl (any_of HT_.out (by kernel_rfl)) (fun _ _ _ h => h) (Or.inl ⟨by rfl, ?_⟩) ?_ ?_
                  rotate_left
                  · intro w'
                    go_simp
                    with_reducible rfl
                  rotate_left
                  · simp only [Act.put, List.setIfInBounds_toArray, List.set_cons_zero, List.set_cons_succ, i64_w, i32_w]
                    rfl
                  refine take_ (i := 16) (N := some 33) (v := ?_) (a' := ?_) #[true, true, true, true, true, true, true, true, true, true, true, true, true, true, true, true, true, true, true, true, true, false, false, false, false] rfl rfl (take_ofW HT_.out HW_.out (by kernel_rfl)) (fun _ _ _ h => h) (Or.inl ⟨by rfl, ?_⟩) hHeld ?_ ?_
                  rotate_left
                  · rintro w' ⟨s0, s1, s2, s3, s4, s5, s6, s7⟩
                    go_simp
                    with_reducible rfl
                  rotate_left
                  · simp only [Act.put, List.setIfInBounds_toArray, List.set_cons_zero, List.set_cons_succ, i64_w, i32_w]
                    rfl
                  refine take_ (i := 21) (N := some 38) (v := ?_) (a' := ?_) #[true, true, true, true, true, true, true, true, true, true, true, true, true, true, true, true, true, true, true, true, true, true, false, false, false] rfl rfl (take_ofW HT_.out HW_.out (by kernel_rfl)) (fun _ _ _ h => h) (Or.inl ⟨by rfl, ?_⟩) hHeld ?_ ?_
                  rotate_left
                  · rintro w' ⟨s0, s1, s2, s3, s4, s5, s6, s7⟩
                    go_simp
                    with_reducible rfl
                  rotate_left
                  · simp only [Act.put, List.setIfInBounds_toArray, List.set_cons_zero, List.set_cons_succ, i64_w, i32_w]
                    rfl
                  refine one_ (i := 22) (N := some 39) #[true, true, true, true, true, true, true, true, true, true, true, true, true, true, true, true, true, true, true, true, true, true, true, false, false] rfl rfl (one_of HT_.out (by kernel_rfl)) (by decide) (fun K hK => ?_)
                  refine goes_ Try.func17 (by kernel_rfl) rfl #[.slice A448_1 ((rd_T45 l0 x5_1).f1).length c448_1, .slice A449_1 ((rd_T45 l1 x5_1).f1).length c449_1] (by rfl) rfl rfl (by (try simp only [List.map_toArray, List.map_cons, List.map_nil]); first | done | rfl | (simp only [List.length_drop, List.length_take]; rfl)) ?_
                  with_reducible refine (ih k1 (by have := HK1.out; omega) _ _ ((rd_T45 l0 x5_1).f1) _ _ ((rd_T45 l1 x5_1).f1) false _ ?side1 ?side2 ?side3 ?side4 A8.out).mono ?_
                  (case side1 => repeat (first | exact (Kd.C_below HR450_1.out HB.out) | (with_reducible refine cA_ ?_ _) | (with_reducible refine cN_ ?_ _) | (with_reducible refine cD_ ?_)))
                  (case side2 => exact HC450_1.out)
                  (case side3 => repeat (first | exact (Kd.C_below HR451_1.out HB.out) | (with_reducible refine cA_ ?_ _) | (with_reducible refine cN_ ?_ _) | (with_reducible refine cD_ ?_)))
                  (case side4 => exact HC451_1.out)
                  rintro e w13 ⟨rfl, hb⟩
                  refine ⟨_, rfl, ?_⟩
                  have n0_ := Aside0.mk (below_step (by repeat (first | (with_reducible first | exact HB.out | apply bA_ | apply bN_ | apply bD_) | exact HB.out)) hb)
                  clear HB
                  have HB := n0_
                  clear n0_
                  (try clear hb)
                  (try clear hb2)
                  (try clear hk)
                  (try clear hi)
                  refine hK.out _ _ ⟨((HB.out.cell (World.block_lt_of_cell? w _ hw448_0)).trans hw448_0), ((HB.out.cell (World.block_lt_of_cell? w _ hw448_1)).trans hw448_1), ((HB.out.cell (World.block_lt_of_cell? w _ hw449_0)).trans hw449_0), ((HB.out.cell (World.block_lt_of_cell? w _ hw449_1)).trans hw449_1), ((HB.out.cell (World.block_lt_of_cell? w _ hw450_0)).trans hw450_0), ((HB.out.cell (World.block_lt_of_cell? w _ hw450_1)).trans hw450_1), ((HB.out.cell (World.block_lt_of_cell? w _ hw451_0)).trans hw451_0), ((HB.out.cell (World.block_lt_of_cell? w _ hw451_1)).trans hw451_1)⟩ (fun hHeld => ?_)
                  clear hK K
                  refine norm_ (a' := ?_) ?_ ?_
                  rotate_left
                  · show Act.put _ (some 39) _ = _
                    simp only [Act.put, List.setIfInBounds_toArray, List.set_cons_zero, List.set_cons_succ, i64_w, i32_w]
                    rfl
                  refine pure_ (i := 23) (N := some 40) (v := ?_) (a' := ?_) #[true, true, true, true, true, true, true, true, true, true, true, true, true, true, true, true, true, true, true, true, true, true, true, true, false] rfl rfl (any_of HT_.out (by kernel_rfl)) (fun _ _ _ h => h) (Or.inl ⟨by rfl, ?_⟩) ?_ ?_
                  rotate_left
                  · intro w'
                    go_simp
                    with_reducible rfl
                  rotate_left
                  · simp only [Act.put, List.setIfInBounds_toArray, List.set_cons_zero, List.set_cons_succ, i64_w, i32_w]
                    rfl
                  refine pure_ (i := 24) (N := some 41) (v := ?_) (a' := ?_) #[true, true, true, true, true, true, true, true, true, true, true, true, true, true, true, true, true, true, true, true, true, true, true, true, true] rfl rfl (any_of HT_.out (by kernel_rfl)) (fun _ _ _ h => h) (Or.inl ⟨by rfl, ?_⟩) ?_ ?_
                  rotate_left
                  · intro w'
                    go_simp
                    with_reducible rfl
                  rotate_left
                  · simp only [Act.put, List.setIfInBounds_toArray, List.set_cons_zero, List.set_cons_succ, i64_w, i32_w]
                    rfl
                  refine done_ (done_of HT_.out (by kernel_rfl)) ?_
                  try go_wp2
                  go_ret
                  exact ⟨by first | rfl | (simp [errW_none, errW_some] <;> rfl) | (simp [*, errW_none, errW_some] <;> rfl), by repeat (first | (with_reducible first | exact HB.out | apply bA_ | apply bN_ | apply bD_) | exact HB.out)⟩
              · rw [if_neg c7] at H
                have c7b0 : (((rd_T45 l0 x5_1).f0).toList == ((rd_T45 l1 x5_1).f0).toList) = false := beq_eq_false_iff_ne.mpr c7
                have c7b1 : (((rd_T45 l0 x5_1).f0).toList != ((rd_T45 l1 x5_1).f0).toList) = true := bne_iff_ne.mpr c7
                obtain rfl := Option.some.inj H
                try go_wp2
                have n0_ := Aside0.mk (bD_ HB.out)
                clear HB
                have HB := n0_
                clear n0_
                have p448 : 0 ≤ (x5_1 : Int) := of_decide_eq_true (by first | (with_reducible assumption) | assumption)
                have q448 : x5_1 < (l0.length : Int) := of_decide_eq_true (by first | (with_reducible assumption) | assumption)
                obtain ⟨ad448, A448_1, c448_1, e448, hx448_0, hx448_1, hl448_1, hi448_1⟩ := at_T45 HR0.out x5_1 p448 q448
                have hw448_1 := hx448_1
                have hw448_0 := hx448_0
                cases e448
                replace hx448_0 := (HB.out.cell (World.block_lt_of_cell? w _ hx448_0)).trans hx448_0
                replace hx448_1 := (HB.out.cell (World.block_lt_of_cell? w _ hx448_1)).trans hx448_1
                have HR448_1 := Aside0.mk hi448_1
                have HC448_1 := Aside0.mk hl448_1
                clear hi448_1 hl448_1
                replace p448 := eq_true p448
                replace q448 := eq_true q448
                have p449 : 0 ≤ (x5_1 : Int) := of_decide_eq_true (by first | (with_reducible assumption) | assumption)
                have q449 : x5_1 < (l1.length : Int) := of_decide_eq_true (by first | (with_reducible assumption) | assumption)
                obtain ⟨ad449, A449_1, c449_1, e449, hx449_0, hx449_1, hl449_1, hi449_1⟩ := at_T45 HR1.out x5_1 p449 q449
                have hw449_1 := hx449_1
                have hw449_0 := hx449_0
                cases e449
                replace hx449_0 := (HB.out.cell (World.block_lt_of_cell? w _ hx449_0)).trans hx449_0
                replace hx449_1 := (HB.out.cell (World.block_lt_of_cell? w _ hx449_1)).trans hx449_1
                have HR449_1 := Aside0.mk hi449_1
                have HC449_1 := Aside0.mk hl449_1
                clear hi449_1 hl449_1
                replace p449 := eq_true p449
                replace q449 := eq_true q449
                refine start_ (n := 25) (S := fun w' => w'.cell? (ad448.add ((x5_1).toNat * 2)) = some (.string ((rd_T45 l0 x5_1).f0)) ∧ w'.cell? ⟨(ad448.add ((x5_1).toNat * 2)).block, (ad448.add ((x5_1).toNat * 2)).off + 1, none⟩ = some (.slice A448_1 ((rd_T45 l0 x5_1).f1).length c448_1) ∧ w'.cell? (ad449.add ((x5_1).toNat * 2)) = some (.string ((rd_T45 l1 x5_1).f0)) ∧ w'.cell? ⟨(ad449.add ((x5_1).toNat * 2)).block, (ad449.add ((x5_1).toNat * 2)).off + 1, none⟩ = some (.slice A449_1 ((rd_T45 l1 x5_1).f1).length c449_1)) (ds := []) #[false, false, false, false, false, false, false, false, false, false, false, false, false, false, false, false, false, false, false, false, false, false, false, false, false] (by kernel_rfl) rfl rfl ⟨((HB.out.cell (World.block_lt_of_cell? w _ hw448_0)).trans hw448_0), ((HB.out.cell (World.block_lt_of_cell? w _ hw448_1)).trans hw448_1), ((HB.out.cell (World.block_lt_of_cell? w _ hw449_0)).trans hw449_0), ((HB.out.cell (World.block_lt_of_cell? w _ hw449_1)).trans hw449_1)⟩ (fun hHeld => ?_); refine with_tabW cadenceref2_Same.tab6 cadenceref2_Same.bits6 (fun HT_ HW_ => ?_)
                generalize wr.drew = w14 at HB HR448_1 HR449_1 hx448_0 hx448_1 hx449_0 hx449_1 hHeld ⊢
                refine pure_ (i := 0) (N := some 17) (v := ?_) (a' := ?_) #[true, false, false, false, false, false, false, false, false, false, false, false, false, false, false, false, false, false, false, false, false, false, false, false, false] rfl rfl (any_of HT_.out (by kernel_rfl)) (fun _ _ _ h => h) (Or.inl ⟨by rfl, ?_⟩) ?_ ?_
                rotate_left
                · intro w'
                  go_simp
                  with_reducible rfl
                rotate_left
                · simp only [Act.put, List.setIfInBounds_toArray, List.set_cons_zero, List.set_cons_succ, i64_w, i32_w]
                  rfl
                refine pure_ (i := 1) (N := some 18) (v := ?_) (a' := ?_) #[true, true, false, false, false, false, false, false, false, false, false, false, false, false, false, false, false, false, false, false, false, false, false, false, false] rfl rfl (any_of HT_.out (by kernel_rfl)) (fun _ _ _ h => h) (Or.inl ⟨by rfl, ?_⟩) ?_ ?_
                rotate_left
                · intro w'
                  go_simp
                  with_reducible rfl
                rotate_left
                · simp only [Act.put, List.setIfInBounds_toArray, List.set_cons_zero, List.set_cons_succ, i64_w, i32_w]
                  rfl
                refine pure_ (i := 2) (N := some 19) (v := ?_) (a' := ?_) #[true, true, true, false, false, false, false, false, false, false, false, false, false, false, false, false, false, false, false, false, false, false, false, false, false] rfl rfl (any_of HT_.out (by kernel_rfl)) (fun _ _ _ h => h) (Or.inl ⟨by rfl, ?_⟩) ?_ ?_
                rotate_left
                · intro w'
                  go_simp
                  with_reducible rfl
                rotate_left
                · simp only [Act.put, List.setIfInBounds_toArray, List.set_cons_zero, List.set_cons_succ, i64_w, i32_w]
                  rfl
                refine pure_ (i := 3) (N := some 20) (v := ?_) (a' := ?_) #[true, true, true, true, false, false, false, false, false, false, false, false, false, false, false, false, false, false, false, false, false, false, false, false, false] rfl rfl (any_of HT_.out (by kernel_rfl)) (fun _ _ _ h => h) (Or.inl ⟨by rfl, ?_⟩) ?_ ?_
                rotate_left
                · intro w'
                  go_simp
                  with_reducible rfl
                rotate_left
                · simp only [Act.put, List.setIfInBounds_toArray, List.set_cons_zero, List.set_cons_succ, i64_w, i32_w]
                  rfl
                refine pure_ (i := 5) (N := some 22) (v := ?_) (a' := ?_) #[true, true, true, true, false, true, false, false, false, false, false, false, false, false, false, false, false, false, false, false, false, false, false, false, false] rfl rfl (any_of HT_.out (by kernel_rfl)) (fun _ _ _ h => h) (Or.inl ⟨by rfl, ?_⟩) ?_ ?_
                rotate_left
                · intro w'
                  go_simp
                  with_reducible rfl
                rotate_left
                · simp only [Act.put, List.setIfInBounds_toArray, List.set_cons_zero, List.set_cons_succ, i64_w, i32_w]
                  rfl
                refine pure_ (i := 6) (N := some 23) (v := ?_) (a' := ?_) #[true, true, true, true, false, true, true, false, false, false, false, false, false, false, false, false, false, false, false, false, false, false, false, false, false] rfl rfl (any_of HT_.out (by kernel_rfl)) (fun _ _ _ h => h) (Or.inl ⟨by rfl, ?_⟩) ?_ ?_
                rotate_left
                · intro w'
                  go_simp
                  with_reducible rfl
                rotate_left
                · simp only [Act.put, List.setIfInBounds_toArray, List.set_cons_zero, List.set_cons_succ, i64_w, i32_w]
                  rfl
                refine pure_ (i := 7) (N := some 24) (v := ?_) (a' := ?_) #[true, true, true, true, false, true, true, true, false, false, false, false, false, false, false, false, false, false, false, false, false, false, false, false, false] rfl rfl (any_of HT_.out (by kernel_rfl)) (fun _ _ _ h => h) (Or.inl ⟨by rfl, ?_⟩) ?_ ?_
                rotate_left
                · intro w'
                  go_simp
                  with_reducible rfl
                rotate_left
                · simp only [Act.put, List.setIfInBounds_toArray, List.set_cons_zero, List.set_cons_succ, i64_w, i32_w]
                  rfl
                refine pure_ (i := 8) (N := some 25) (v := ?_) (a' := ?_) #[true, true, true, true, false, true, true, true, true, false, false, false, false, false, false, false, false, false, false, false, false, false, false, false, false] rfl rfl (any_of HT_.out (by kernel_rfl)) (fun _ _ _ h => h) (Or.inl ⟨by rfl, ?_⟩) ?_ ?_
                rotate_left
                · intro w'
                  go_simp
                  with_reducible rfl
                rotate_left
                · simp only [Act.put, List.setIfInBounds_toArray, List.set_cons_zero, List.set_cons_succ, i64_w, i32_w]
                  rfl
                refine take_ (i := 4) (N := some 21) (v := ?_) (a' := ?_) #[true, true, true, true, true, true, true, true, true, false, false, false, false, false, false, false, false, false, false, false, false, false, false, false, false] rfl rfl (take_ofW HT_.out HW_.out (by kernel_rfl)) (fun _ _ _ h => h) (Or.inl ⟨by rfl, ?_⟩) hHeld ?_ ?_
                rotate_left
                · rintro w' ⟨s0, s1, s2, s3⟩
                  go_simp
                  with_reducible rfl
                rotate_left
                · simp only [Act.put, List.setIfInBounds_toArray, List.set_cons_zero, List.set_cons_succ, i64_w, i32_w]
                  rfl
                refine take_ (i := 9) (N := some 26) (v := ?_) (a' := ?_) #[true, true, true, true, true, true, true, true, true, true, false, false, false, false, false, false, false, false, false, false, false, false, false, false, false] rfl rfl (take_ofW HT_.out HW_.out (by kernel_rfl)) (fun _ _ _ h => h) (Or.inl ⟨by rfl, ?_⟩) hHeld ?_ ?_
                rotate_left
                · rintro w' ⟨s0, s1, s2, s3⟩
                  go_simp
                  with_reducible rfl
                rotate_left
                · simp only [Act.put, List.setIfInBounds_toArray, List.set_cons_zero, List.set_cons_succ, i64_w, i32_w]
                  rfl
                refine pure_ (i := 10) (N := some 27) (v := ?_) (a' := ?_) #[true, true, true, true, true, true, true, true, true, true, true, false, false, false, false, false, false, false, false, false, false, false, false, false, false] rfl rfl (any_of HT_.out (by kernel_rfl)) (fun _ _ _ h => h) (Or.inl ⟨by rfl, ?_⟩) ?_ ?_
                rotate_left
                · intro w'
                  go_simp
                  with_reducible rfl
                rotate_left
                · simp only [Act.put, List.setIfInBounds_toArray, List.set_cons_zero, List.set_cons_succ, i64_w, i32_w]
                  rfl
                refine pure_ (i := 11) (N := some 28) (v := ?_) (a' := ?_) #[true, true, true, true, true, true, true, true, true, true, true, true, false, false, false, false, false, false, false, false, false, false, false, false, false] rfl rfl (any_of HT_.out (by kernel_rfl)) (fun _ _ _ h => h) (Or.inl ⟨by rfl, ?_⟩) ?_ ?_
                rotate_left
                · intro w'
                  go_simp
                  with_reducible rfl
                rotate_left
                · simp only [Act.put, List.setIfInBounds_toArray, List.set_cons_zero, List.set_cons_succ, i64_w, i32_w]
                  rfl
                refine pure_ (i := 12) (N := some 29) (v := undef) (a' := ?_) #[true, true, true, true, true, true, true, true, true, true, true, true, true, false, false, false, false, false, false, false, false, false, false, false, false] rfl rfl (any_of HT_.out (by kernel_rfl)) (fun _ _ _ h => h) (Or.inr ⟨by rfl, rfl⟩) ?_ ?_
                rotate_left
                · simp only [Act.put, List.setIfInBounds_toArray, List.set_cons_zero, List.set_cons_succ, i64_w, i32_w]
                  rfl
                refine pure_ (i := 13) (N := some 30) (v := undef) (a' := ?_) #[true, true, true, true, true, true, true, true, true, true, true, true, true, true, false, false, false, false, false, false, false, false, false, false, false] rfl rfl (any_of HT_.out (by kernel_rfl)) (fun _ _ _ h => h) (Or.inr ⟨by rfl, rfl⟩) ?_ ?_
                rotate_left
                · simp only [Act.put, List.setIfInBounds_toArray, List.set_cons_zero, List.set_cons_succ, i64_w, i32_w]
                  rfl
                refine pure_ (i := 14) (N := some 31) (v := undef) (a' := ?_) #[true, true, true, true, true, true, true, true, true, true, true, true, true, true, true, false, false, false, false, false, false, false, false, false, false] rfl rfl (any_of HT_.out (by kernel_rfl)) (fun _ _ _ h => h) (Or.inr ⟨by rfl, rfl⟩) ?_ ?_
                rotate_left
                · simp only [Act.put, List.setIfInBounds_toArray, List.set_cons_zero, List.set_cons_succ, i64_w, i32_w]
                  rfl
                refine pure_ (i := 15) (N := some 32) (v := undef) (a' := ?_) #[true, true, true, true, true, true, true, true, true, true, true, true, true, true, true, true, false, false, false, false, false, false, false, false, false] rfl rfl (any_of HT_.out (by kernel_rfl)) (fun _ _ _ h => h) (Or.inr ⟨by rfl, rfl⟩) ?_ ?_
                rotate_left
                · simp only [Act.put, List.setIfInBounds_toArray, List.set_cons_zero, List.set_cons_succ, i64_w, i32_w]
                  rfl
                refine pure_ (i := 16) (N := some 33) (v := undef) (a' := ?_) #[true, true, true, true, true, true, true, true, true, true, true, true, true, true, true, true, true, false, false, false, false, false, false, false, false] rfl rfl (any_of HT_.out (by kernel_rfl)) (fun _ _ _ h => h) (Or.inr ⟨by rfl, rfl⟩) ?_ ?_
                rotate_left
                · simp only [Act.put, List.setIfInBounds_toArray, List.set_cons_zero, List.set_cons_succ, i64_w, i32_w]
                  rfl
                refine pure_ (i := 17) (N := some 34) (v := undef) (a' := ?_) #[true, true, true, true, true, true, true, true, true, true, true, true, true, true, true, true, true, true, false, false, false, false, false, false, false] rfl rfl (any_of HT_.out (by kernel_rfl)) (fun _ _ _ h => h) (Or.inr ⟨by rfl, rfl⟩) ?_ ?_
                rotate_left
                · simp only [Act.put, List.setIfInBounds_toArray, List.set_cons_zero, List.set_cons_succ, i64_w, i32_w]
                  rfl
                refine pure_ (i := 18) (N := some 35) (v := undef) (a' := ?_) #[true, true, true, true, true, true, true, true, true, true, true, true, true, true, true, true, true, true, true, false, false, false, false, false, false] rfl rfl (any_of HT_.out (by kernel_rfl)) (fun _ _ _ h => h) (Or.inr ⟨by rfl, rfl⟩) ?_ ?_
                rotate_left
                · simp only [Act.put, List.setIfInBounds_toArray, List.set_cons_zero, List.set_cons_succ, i64_w, i32_w]
                  rfl
                refine pure_ (i := 19) (N := some 36) (v := undef) (a' := ?_) #[true, true, true, true, true, true, true, true, true, true, true, true, true, true, true, true, true, true, true, true, false, false, false, false, false] rfl rfl (any_of HT_.out (by kernel_rfl)) (fun _ _ _ h => h) (Or.inr ⟨by rfl, rfl⟩) ?_ ?_
                rotate_left
                · simp only [Act.put, List.setIfInBounds_toArray, List.set_cons_zero, List.set_cons_succ, i64_w, i32_w]
                  rfl
                refine pure_ (i := 20) (N := some 37) (v := undef) (a' := ?_) #[true, true, true, true, true, true, true, true, true, true, true, true, true, true, true, true, true, true, true, true, true, false, false, false, false] rfl rfl (any_of HT_.out (by kernel_rfl)) (fun _ _ _ h => h) (Or.inr ⟨by rfl, rfl⟩) ?_ ?_
                rotate_left
                · simp only [Act.put, List.setIfInBounds_toArray, List.set_cons_zero, List.set_cons_succ, i64_w, i32_w]
                  rfl
                refine pure_ (i := 21) (N := some 38) (v := undef) (a' := ?_) #[true, true, true, true, true, true, true, true, true, true, true, true, true, true, true, true, true, true, true, true, true, true, false, false, false] rfl rfl (any_of HT_.out (by kernel_rfl)) (fun _ _ _ h => h) (Or.inr ⟨by rfl, rfl⟩) ?_ ?_
                rotate_left
                · simp only [Act.put, List.setIfInBounds_toArray, List.set_cons_zero, List.set_cons_succ, i64_w, i32_w]
                  rfl
                refine pure_ (i := 22) (N := some 39) (v := undef) (a' := ?_) #[true, true, true, true, true, true, true, true, true, true, true, true, true, true, true, true, true, true, true, true, true, true, true, false, false] rfl rfl (any_of HT_.out (by kernel_rfl)) (fun _ _ _ h => h) (Or.inr ⟨by rfl, rfl⟩) ?_ ?_
                rotate_left
                · simp only [Act.put, List.setIfInBounds_toArray, List.set_cons_zero, List.set_cons_succ, i64_w, i32_w]
                  rfl
                refine pure_ (i := 23) (N := some 40) (v := undef) (a' := ?_) #[true, true, true, true, true, true, true, true, true, true, true, true, true, true, true, true, true, true, true, true, true, true, true, true, false] rfl rfl (any_of HT_.out (by kernel_rfl)) (fun _ _ _ h => h) (Or.inr ⟨by rfl, rfl⟩) ?_ ?_
                rotate_left
                · simp only [Act.put, List.setIfInBounds_toArray, List.set_cons_zero, List.set_cons_succ, i64_w, i32_w]
                  rfl
                refine pure_ (i := 24) (N := some 41) (v := ?_) (a' := ?_) #[true, true, true, true, true, true, true, true, true, true, true, true, true, true, true, true, true, true, true, true, true, true, true, true, true] rfl rfl (any_of HT_.out (by kernel_rfl)) (fun _ _ _ h => h) (Or.inl ⟨by rfl, ?_⟩) ?_ ?_
                rotate_left
                · intro w'
                  go_simp
                  with_reducible rfl
                rotate_left
                · simp only [Act.put, List.setIfInBounds_toArray, List.set_cons_zero, List.set_cons_succ, i64_w, i32_w]
                  rfl
                refine done_ (done_of HT_.out (by kernel_rfl)) ?_
                try go_wp2
                go_ret
                exact ⟨by first | rfl | (simp [errW_none, errW_some] <;> rfl) | (simp [*, errW_none, errW_some] <;> rfl), by repeat (first | (with_reducible first | exact HB.out | apply bA_ | apply bN_ | apply bD_) | exact HB.out)⟩
            · rw [if_neg c6] at H
              exact absurd H (by simp)
          · rw [if_neg c5] at H
            exact absurd H (by simp)
        · rw [if_neg c4] at H
          have c4b0 : decide (x5_1 < (l0.length : Int)) = false := decide_eq_false c4
          clear c4
          obtain rfl := Option.some.inj H
          go_wp2
          go_ret
          exact ⟨by first | rfl | (simp [errW_none, errW_some] <;> rfl) | (simp [*, errW_none, errW_some] <;> rfl), by repeat (first | (with_reducible first | exact HB.out | apply bA_ | apply bN_ | apply bD_) | exact HB.out)⟩
  · rw [if_neg c3] at H
    have c3b0 : ((l0.length : Int) == (l1.length : Int)) = false := beq_eq_false_iff_ne.mpr c3
    have c3b1 : ((l0.length : Int) != (l1.length : Int)) = true := bne_iff_ne.mpr c3
    have c3b2 : (l0.length == l1.length) = false := by first | simpa using c3 | (simp at c3 ⊢; omega)
    obtain rfl := Option.some.inj H
    go_enter Try.func17, Try.ntmps17
    go_wp2
    go_ret
    exact ⟨by first | rfl | (simp [errW_none, errW_some] <;> rfl) | (simp [*, errW_none, errW_some] <;> rfl), by repeat (first | (with_reducible first | exact HB.out | apply bA_ | apply bN_ | apply bD_) | exact HB.out)⟩

end Go.Proofs.Ytbhgocpenbibgaa.PX
/- What the printed functions over trees come to: At, With, Same. -/
set_option linter.unusedVariables false
namespace Go.Proofs.Ytbhgocpenbibgaa.PX
open Go.RowKit Go.Proofs.YtbhgocpenbibgaaW.PrintWords Go.Proofs.YtbhgocpenbibgaaW.PrintLast Go.Proofs.YtbhgocpenbibgaaW.PrintMore Go.Proofs.Ytbhgocpenbibgaa
theorem at_ev (t : Tr) (n : ByteArray) (hl : t.length ≤ 1000000000000) : Ev (fun k => cadenceref2_At.f k t n) ((pos t n : Nat), hasAt t n) := by
  have loop : ∀ (d i : Nat), i + d = t.length → (∀ j (h : j < t.length), j < i → tl t[j].f0 < tl n) → Ev (fun k => cadenceref2_At.l0 k t n (i : Int)) ((pos t n : Nat), hasAt t n) := by
    intro d
    induction d with
    | zero =>
      intro i hi hb
      have e : ∀ k, cadenceref2_At.l0 (k + 1) t n (i : Int) = some ((i : Int), false) := fun k => by
        simp only [cadenceref2_At.l0]
        rw [if_neg (by omega)]
      have hp : pos t n = i := by
        have h1 := pos_le t n
        refine Nat.le_antisymm (by omega) (Nat.le_of_not_lt fun hlt => ?_)
        have hh := hasAt_pos t n
        have h2 := hb (pos t n) (by omega) hlt
        exact absurd h2 (pos_not t n (by omega))
      have hh : hasAt t n = false := by rw [hasAt_pos, dif_neg (by omega)]
      rw [hp, hh]
      exact Ev.step e (Ev.now _)
    | succ d ihd =>
      intro i hi hb
      have hil : i < t.length := by omega
      by_cases hlt : tl t[i].f0 < tl n
      · have e : ∀ k, cadenceref2_At.l0 (k + 1) t n (i : Int) = cadenceref2_At.l0 k t n ((i + 1 : Nat) : Int) := fun k => by
          simp only [cadenceref2_At.l0]
          rw [if_pos (by omega), if_pos (by omega), rdT_nat hil, if_pos ((less_iff _ _).2 hlt), wrap_succ (by omega)]
        refine Ev.step e (ihd (i + 1) (by omega) fun j hj hji => ?_)
        rcases Nat.lt_or_ge j i with h | h
        · exact hb j hj h
        · obtain rfl : j = i := by omega
          exact hlt
      · have e : ∀ k, cadenceref2_At.l0 (k + 1) t n (i : Int) = some ((i : Int), decide (t[i].f0 = n)) := fun k => by
          simp only [cadenceref2_At.l0]
          rw [if_pos (by omega), if_pos (by omega), rdT_nat hil, if_neg (fun h => hlt ((less_iff _ _).1 h)), same_eq]
        have hp : pos t n = i := by
          rcases Nat.lt_trichotomy (pos t n) i with h | h | h
          · exact absurd (hb _ (by omega) h) (pos_not t n (by omega))
          · exact h
          · exact absurd (pos_below t n i hil h) hlt
        have hh : hasAt t n = decide (t[i].f0 = n) := by
          rw [hasAt_pos, dif_pos (by omega)]
          simp only [hp]
        rw [hp, hh]
        exact Ev.step e (Ev.now _)
  exact loop t.length 0 (by omega) (fun j _ h => absurd h (Nat.not_lt_zero _))
theorem with_ev (t : Tr) (n : ByteArray) (x : Tr) (hl : t.length ≤ 1000000000000) : Ev (fun k => cadenceref2_With.f k t n x) (withT t n x) := by
  obtain ⟨K, hK⟩ := at_ev t n hl
  refine ⟨K, fun k hk => ?_⟩
  replace hK : cadenceref2_At.f k t n = some (((pos t n : Nat) : Int), hasAt t n) := hK k hk
  show cadenceref2_With.f k t n x = some (withT t n x)
  have hp := pos_le t n
  have h1 : (0 : Int) ≤ (pos t n : Nat) := by omega
  have h2 : ((pos t n : Nat) : Int) ≤ (t.length : Int) := by omega
  have h3 : ([] : Tr).length + (t.take (pos t n)).length < 3518437208883 := by rw [List.length_take, List.length_nil]; omega
  have h4 : (t.take (pos t n)).length < 3518437208883 := by rw [List.length_take]; omega
  unfold cadenceref2_With.f
  rw [hK, Option.bind_some, if_pos h1, if_pos h2, Int.toNat_natCast, Option.bind_some, if_pos h3, Option.bind_some, List.nil_append, if_pos h4, Option.bind_some, withT_eq]
  cases e : hasAt t n with
  | true =>
    have hlt : pos t n < t.length := by
      rw [hasAt_kid] at e
      obtain ⟨x, hx⟩ := Option.isSome_iff_exists.1 e
      exact (kid_pos t n x hx).1
    have h5 : (0 : Int) ≤ ((pos t n + 1 : Nat) : Int) := by omega
    have h6 : ((pos t n + 1 : Nat) : Int) ≤ (t.length : Int) := by omega
    have h7 : (t.take (pos t n) ++ [(⟨n, x⟩ : Edge)]).length + (t.drop (pos t n + 1)).length < 3518437208883 := by rw [List.length_append, List.length_take, List.length_drop, List.length_singleton]; omega
    rw [if_pos rfl, wrap_succ (by omega), if_pos h5, if_pos h6, Int.toNat_natCast, Option.bind_some, if_pos h7, if_pos rfl, List.append_assoc]
    rfl
  | false =>
    have h7 : (t.take (pos t n) ++ [(⟨n, x⟩ : Edge)]).length + (t.drop (pos t n)).length < 3518437208883 := by rw [List.length_append, List.length_take, List.length_drop, List.length_singleton]; omega
    rw [if_neg Bool.false_ne_true, Option.bind_some, if_pos h7, if_neg Bool.false_ne_true, List.append_assoc]
    rfl
/-! ### Same -/
theorem same_loop {a b : Tr} (hl : a.length = b.length) (hb : b.length ≤ 1000000000000) (ih : ∀ i (h : i < a.length), Ev (fun k => cadenceref2_Same.f k a[i].f1 (b[i]'(hl ▸ h)).f1) (decide (a[i].f1 = (b[i]'(hl ▸ h)).f1))) :
    ∀ (d i : Nat), i + d = a.length → Ev (fun k => cadenceref2_Same.l0 k a b (i : Int)) (decide (a.drop i = b.drop i)) := by
  intro d
  induction d with
  | zero =>
    intro i hi
    have e : ∀ k, cadenceref2_Same.l0 (k + 1) a b (i : Int) = some true := fun k => by
      simp only [cadenceref2_Same.l0]
      rw [if_neg (by omega)]
    rw [List.drop_eq_nil_of_le (by omega), List.drop_eq_nil_of_le (by omega), decide_eq_true rfl]
    exact Ev.step e (Ev.now _)
  | succ d ihd =>
    intro i hi
    have h1 : i < a.length := by omega
    have h2 : i < b.length := by omega
    have ea : a.drop i = a[i] :: a.drop (i + 1) := List.drop_eq_getElem_cons h1
    have eb : b.drop i = b[i] :: b.drop (i + 1) := List.drop_eq_getElem_cons h2
    have hd : decide (a.drop i = b.drop i) = (decide (a[i].f0 = b[i].f0) && (decide (a[i].f1 = b[i].f1) && decide (a.drop (i + 1) = b.drop (i + 1)))) := by
      rw [ea, eb, Bool.eq_iff_iff]
      simp only [Bool.and_eq_true, decide_eq_true_eq, List.cons.injEq]
      constructor
      · rintro ⟨h, h'⟩; rw [h]; exact ⟨rfl, rfl, h'⟩
      · rintro ⟨h, h', h''⟩
        refine ⟨?_, h''⟩
        cases h3 : a[i]; cases h4 : b[i]; simp_all
    rw [hd]
    by_cases hn : a[i].f0 = b[i].f0
    · have e : ∀ k, cadenceref2_Same.l0 (k + 1) a b (i : Int) = (cadenceref2_Same.f k a[i].f1 b[i].f1).bind fun t => (if t = true then cadenceref2_Same.l0 k a b ((i + 1 : Nat) : Int) else some false) := fun k => by
        simp only [cadenceref2_Same.l0]
        rw [if_pos (by omega), if_pos (by omega), if_pos (by omega), rdT_nat h1, rdT_nat h2, if_pos (by rw [hn]), wrap_succ (by omega)]
      refine Ev.step e (Ev.bind (ih i h1) ?_)
      rw [decide_eq_true hn, Bool.true_and]
      cases hk : decide (a[i].f1 = b[i].f1) with
      | true =>
        simp only [if_true, Bool.true_and]
        exact ihd (i + 1) (by omega)
      | false =>
        simp only [Bool.false_eq_true, if_false, Bool.false_and]
        exact Ev.now _
    · have e : ∀ k, cadenceref2_Same.l0 (k + 1) a b (i : Int) = some false := fun k => by
        simp only [cadenceref2_Same.l0]
        rw [if_pos (by omega), if_pos (by omega), if_pos (by omega), rdT_nat h1, rdT_nat h2, if_neg (fun h => hn (tl_inj (by rw [← toList_tl, ← toList_tl, h])))]
      rw [decide_eq_false hn, Bool.false_and]
      exact Ev.step e (Ev.now _)
theorem same_ev {W : Nat} (hW : W ≤ 1000000000000) : ∀ {d : Nat} {a b : Tr}, Ok W d a → Ok W d b → Ev (fun k => cadenceref2_Same.f k a b) (decide (a = b)) := by
  intro d
  induction d with
  | zero =>
    intro a b ha hb
    rw [show a = [] from ha, show b = [] from hb]
    exact Ev.step (f := fun k => cadenceref2_Same.l0 k [] [] ((0 : Nat) : Int)) (fun k => by simp only [cadenceref2_Same.f]; rfl) (same_loop rfl (by simp) (fun i h => absurd h (Nat.not_lt_zero _)) 0 0 rfl)
  | succ d ih =>
    intro a b ha hb
    by_cases hl : a.length = b.length
    · have := same_loop hl (Nat.le_trans hb.length hW) (fun i h => ih (ha.2.2 _ (List.getElem_mem h)) (hb.2.2 _ (List.getElem_mem _))) a.length 0 (by omega)
      rw [List.drop_zero, List.drop_zero] at this
      exact Ev.step (fun k => by simp only [cadenceref2_Same.f]; rw [if_pos (by omega)]; rfl) this
    · have : decide (a = b) = false := decide_eq_false fun h => hl (by rw [h])
      rw [this]
      exact Ev.step (fun k => by simp only [cadenceref2_Same.f]; rw [if_neg (by omega)]) (Ev.now false)
end Go.Proofs.Ytbhgocpenbibgaa.PX
/- Names in order, each once: lists of no program. -/
set_option linter.unusedVariables false
set_option linter.unusedSimpArgs false
namespace Go.Proofs.Ytbhgocpenbibgaa
open Go.Lib
def ofL (L : List Str) : List Str := Lib.compact (L.mergeSort fun x y => decide (x ≤ y))
theorem ofL_length_le (L : List Str) : (ofL L).length ≤ L.length := by
  have := Lib.compact_length_le (L.mergeSort fun x y => decide (x ≤ y))
  rw [List.length_mergeSort] at this
  exact this
theorem str_irrefl (x : Str) : ¬ x < x := List.lt_irrefl x
theorem str_trans {x y z : Str} (h : x < y) (h' : y < z) : x < z := List.lt_trans h h'
theorem str_le_lt {x y z : Str} (h : x ≤ y) (h' : y < z) : x < z := List.lt_of_le_of_lt h h'
theorem str_le_trans {x y z : Str} (h : x ≤ y) (h' : y ≤ z) : x ≤ z := List.le_trans h h'
theorem str_lt_of {x y : Str} (h : x ≤ y) (hne : x ≠ y) : x < y := List.not_le.1 fun h' => hne (List.le_antisymm h h')
theorem str_le_total (x y : Str) : x ≤ y ∨ y ≤ x := List.le_total x y
theorem str_le_of_lt {x y : Str} (h : x < y) : x ≤ y := List.le_of_lt h

theorem compact_upTo (zs : List Str) : ∀ m, m ≤ zs.length → (∀ x, x ∈ compactUpTo zs.toArray m ↔ x ∈ zs.take m) ∧
    (zs.Pairwise (· ≤ ·) → (compactUpTo zs.toArray m).Pairwise (· < ·) ∧ ∀ x ∈ compactUpTo zs.toArray m, ∀ j (hj : j < zs.length), m ≤ j + 1 → x ≤ zs[j])
  | 0, _ => by simp [compactUpTo]
  | m + 1, hm => by
    obtain ⟨h1, h2⟩ := compact_upTo zs m (by omega)
    have hmz : m < zs.length := by omega
    have e1 : zs.toArray[m]! = zs[m] := by simp [hmz]
    have et : zs.take (m + 1) = zs.take m ++ [zs[m]] := List.take_succ_eq_append_getElem hmz
    rw [compactUpTo_succ, et]
    by_cases hk : keeps zs.toArray m = true
    · rw [if_pos hk, e1]
      refine ⟨fun x => by rw [List.mem_append, List.mem_append, h1 x], fun hs => ?_⟩
      obtain ⟨h3, h4⟩ := h2 hs
      have hlt : ∀ x ∈ compactUpTo zs.toArray m, x < zs[m] := by
        intro x hx
        unfold keeps at hk
        rw [decide_eq_true_eq] at hk
        rcases Nat.eq_zero_or_pos m with h0 | h0
        · subst h0
          simp [compactUpTo] at hx
        · rcases hk with h0' | hk
          · omega
          · have e2 : zs.toArray[m - 1]! = zs[m - 1] := by simp [show m - 1 < zs.length by omega]
            rw [e1, e2] at hk
            have h5 : zs[m - 1] ≤ zs[m] := List.pairwise_iff_getElem.1 hs (m - 1) m (by omega) hmz (by omega)
            exact str_le_lt (h4 x hx (m - 1) (by omega) (by omega)) (str_lt_of h5 (fun e => hk e.symm))
      refine ⟨List.pairwise_append.2 ⟨h3, List.pairwise_singleton _ _, fun x hx y hy => ?_⟩, fun x hx j hj hmj => ?_⟩
      · obtain rfl := List.mem_singleton.1 hy
        exact hlt x hx
      · have hle : zs[m] ≤ zs[j] := by
          rcases Nat.eq_or_lt_of_le (show m ≤ j by omega) with e | hlt'
          · subst e
            exact List.le_refl _
          · exact List.pairwise_iff_getElem.1 hs m j hmz hj hlt'
        rcases List.mem_append.1 hx with hx | hx
        · exact str_le_trans (str_le_of_lt (hlt x hx)) hle
        · obtain rfl := List.mem_singleton.1 hx
          exact hle
    · rw [if_neg hk, List.append_nil]
      unfold keeps at hk
      simp only [decide_eq_true_eq, not_or, Decidable.not_not] at hk
      obtain ⟨hm0, hk⟩ := hk
      have e2 : zs.toArray[m - 1]! = zs[m - 1] := by simp [show m - 1 < zs.length by omega]
      rw [e1, e2] at hk
      refine ⟨fun x => ?_, fun hs => ?_⟩
      · rw [h1 x, List.mem_append, List.mem_singleton]
        refine ⟨.inl, fun h => ?_⟩
        rcases h with h | rfl
        · exact h
        · rw [hk]
          exact List.mem_take_iff_getElem.2 ⟨m - 1, by omega, rfl⟩
      · obtain ⟨h3, h4⟩ := h2 hs
        exact ⟨h3, fun x hx j hj hmj => h4 x hx j hj (by omega)⟩

theorem ofL_mem {L : List Str} {x : Str} : x ∈ ofL L ↔ x ∈ L := by
  unfold ofL compact
  rw [(compact_upTo _ _ (Nat.le_refl _)).1 x, List.take_length]
  exact List.mem_mergeSort
theorem ofL_sorted (L : List Str) : (ofL L).Pairwise (· < ·) := by
  unfold ofL compact
  refine ((compact_upTo _ _ (Nat.le_refl _)).2 ?_).1
  have := List.pairwise_mergeSort (le := fun x y : Str => decide (x ≤ y)) (fun a b c h h' => by
    rw [decide_eq_true_eq] at *
    exact str_le_trans h h') (fun a b => by
    rcases str_le_total a b with h | h <;> simp [h]) L
  exact this.imp fun h => by simpa using h

theorem sorted_ext : ∀ {X Y : List Str}, X.Pairwise (· < ·) → Y.Pairwise (· < ·) → (∀ s, s ∈ X ↔ s ∈ Y) → X = Y
  | [], [], _, _, _ => rfl
  | [], y :: Y, _, _, h => by have := (h y).2 (List.mem_cons_self ..); cases this
  | x :: X, [], _, _, h => by have := (h x).1 (List.mem_cons_self ..); cases this
  | x :: X, y :: Y, hx, hy, h => by
    obtain ⟨x1, x2⟩ := List.pairwise_cons.1 hx
    obtain ⟨y1, y2⟩ := List.pairwise_cons.1 hy
    have e : x = y := by
      rcases List.mem_cons.1 ((h x).1 (List.mem_cons_self ..)) with e | h1
      · exact e
      · rcases List.mem_cons.1 ((h y).2 (List.mem_cons_self ..)) with e | h2
        · exact e.symm
        · exact absurd (str_trans (y1 x h1) (x1 y h2)) (str_irrefl _)
    subst e
    congr 1
    refine sorted_ext x2 y2 fun s => ⟨fun hs => ?_, fun hs => ?_⟩
    · rcases List.mem_cons.1 ((h s).1 (List.mem_cons_of_mem _ hs)) with e | h1
      · subst e; exact absurd (x1 s hs) (str_irrefl _)
      · exact h1
    · rcases List.mem_cons.1 ((h s).2 (List.mem_cons_of_mem _ hs)) with e | h1
      · subst e; exact absurd (y1 s hs) (str_irrefl _)
      · exact h1
theorem ofL_ext {X L : List Str} (hX : X.Pairwise (· < ·)) (h : ∀ s, s ∈ X ↔ s ∈ L) : X = ofL L := sorted_ext hX (ofL_sorted L) fun s => by rw [h s, ofL_mem]
theorem ofL_eq {L M : List Str} : ofL L = ofL M ↔ ∀ s, s ∈ L ↔ s ∈ M :=
  ⟨fun h s => by rw [← ofL_mem (L := L), h, ofL_mem], fun h => sorted_ext (ofL_sorted L) (ofL_sorted M) fun s => by rw [ofL_mem, ofL_mem, h s]⟩
theorem ofL_self {X : List Str} (h : X.Pairwise (· < ·)) : ofL X = X := (ofL_ext h fun _ => Iff.rfl).symm

end Go.Proofs.Ytbhgocpenbibgaa
/- Rows known whole; slices of the call's own, by their blocks. -/
set_option linter.unusedVariables false
set_option linter.unusedSimpArgs false
namespace Go.Proofs.Ytbhgocpenbibgaa
open Go.RowKit
def Row (w : World) (g : Nat) (t : TypeId) (xs : List Value) : Prop := w.heap[g]? = some (.cells xs.toArray t (0, 0))
section
variable {w w' : World} {g : Nat} {t : TypeId} {xs : List Value}
theorem Row.lt (h : Row w g t xs) : g < w.heap.size := (Array.getElem?_eq_some_iff.1 h).1
theorem Row.cell (h : Row w g t xs) (i : Nat) : w.cell? ⟨g, i, none⟩ = xs[i]? := by
  rw [cell_of_row w g i xs.toArray t (0, 0) h]; simp
theorem Row.new (w : World) (t : TypeId) (xs : List Value) : Row (w.alloc (.cells xs.toArray t)) w.heap.size t xs := heap_alloc_new w _
end

/-- The slice '.slice A n c' of elements of type e (k cells each) owns the cells xs: it is nil, or it stands at the head of a row in a block from B on. -/
def Own (w : World) (B : Nat) (e : TypeId) (k : Nat) (A : Option Addr) (n c : Nat) (xs : List Value) : Prop :=
  xs.length = n * k ∧ ((A = none ∧ n = 0 ∧ c = 0) ∨ ∃ g rest, A = some ⟨g, 0, none⟩ ∧ B ≤ g ∧ Row w g e (xs ++ rest) ∧ n ≤ c ∧ c ≤ maxLen ∧ (xs ++ rest).length = c * k)

def blkOf : Option Addr → Option Nat
  | some a => some a.block
  | none => none

section
variable {w w' : World} {B B' : Nat} {e : TypeId} {k : Nat} {A : Option Addr} {n c : Nat} {xs : List Value}
theorem Own.len (h : Own w B e k A n c xs) : xs.length = n * k := h.1
theorem Own.blk (h : Own w B e k A n c xs) : ∀ g, blkOf A = some g → B ≤ g ∧ g < w.heap.size := by
  intro g hg
  rcases h.2 with ⟨rfl, _⟩ | ⟨g', rest, rfl, hb, hr, _⟩
  · cases hg
  · injection hg with hg
    subst hg
    exact ⟨hb, hr.lt⟩
end

theorem only_refl (w : World) (g : Option Nat) : w.grownBy w g := ⟨rfl, rfl, rfl, Nat.le_refl _, fun _ _ _ => rfl⟩
end Go.Proofs.Ytbhgocpenbibgaa
/- slices.Sort, Compact at []string: the library's contracts, as rows of the call's own. -/
set_option linter.unusedVariables false
set_option linter.unusedSimpArgs false
namespace Go.Proofs.Ytbhgocpenbibgaa
open Go.RowKit Go.Sort

theorem own_of_ownsRow {w : World} {B : Nat} {e : TypeId} {k n : Nat} {v : Value} {xs : List Value} (h : w.ownsRow B e k v n xs) : ∃ A c, v = .slice A n c ∧ Own w B e k A n c xs := by
  rcases h.2 with ⟨rfl, rfl⟩ | ⟨g, cap, cur, rfl, hb, hg, hn, hm, hs, ht⟩
  · exact ⟨none, 0, rfl, h.1, .inl ⟨rfl, rfl, rfl⟩⟩
  · refine ⟨_, cap, rfl, h.1, .inr ⟨g, cur.toList.drop (n * k), rfl, hb, ?_, hn, hm, ?_⟩⟩
    · unfold Row
      rw [← ht, List.take_append_drop]
      simpa using hg
    · rw [← ht, List.take_append_drop]
      simpa using hs
theorem ownsRow_of_own {w : World} {B : Nat} {e : TypeId} {k n c : Nat} {A : Option Addr} {xs : List Value} (h : Own w B e k A n c xs) : w.ownsRow B e k (.slice A n c) n xs := by
  refine ⟨h.1, ?_⟩
  rcases h.2 with ⟨rfl, rfl, rfl⟩ | ⟨g, rest, rfl, hb, hr, hn, hm, hl⟩
  · exact .inl ⟨rfl, rfl⟩
  · refine .inr ⟨g, c, _, rfl, hb, hr, hn, hm, by simpa using hl, ?_⟩
    rw [← h.1]
    simp

theorem sort_own (B : Nat) (A : Option Addr) (n c : Nat) (L : List Str) (w : World) (ho : Own w B 9 1 A n c (L.map encStr)) (hl : n ≤ 1000000000000) :
    Calls Try.prog 36 #[.slice A n c] w fun e w' => e = .returned (.tuple #[]) ∧ Own w' B 9 1 A n c ((L.mergeSort fun x y => decide (x ≤ y)).map encStr) ∧ w.grownBy w' (blkOf A) := by
  have hn : L.length = n := by simpa using ho.1
  rcases ho.2 with ⟨rfl, rfl, rfl⟩ | ⟨g, rest, rfl, hb, hr, h1, h2, h3⟩
  · refine (Try.slices_Sort_string_none none 0 w).mono fun e w' ⟨he, hw⟩ => ?_
    subst hw
    have : L = [] := List.eq_nil_of_length_eq_zero hn
    subst this
    exact ⟨he, by simpa using ho, only_refl _ _⟩
  · obtain ⟨g', cap, hv, hbg, hgl, hnc, hcm, hlen, hH⟩ := Lib.holds_of_ownsRow (enc := encStr) (zs := L) (ownsRow_of_own ho) (by intro h; cases h)
    cases hv
    subst hn
    refine (Try.slices_Sort_string g 0 c L w hH hgl (by omega)).mono fun e w' ⟨he, nn, os, hw⟩ => ?_
    subst hw
    have hs := ownsRow_sorted (n := nn) (os := os) (ts := L.mergeSort fun x y => decide (x ≤ y)) (ss := L) (List.length_mergeSort L) hb hr h1 h2 (by simpa using h3)
    obtain ⟨A', c', e1, ho'⟩ := own_of_ownsRow hs
    cases e1
    exact ⟨he, ho', grownBy_sorted _⟩
theorem compact_own (B : Nat) (A : Option Addr) (n c : Nat) (L : List Str) (w : World) (ho : Own w B 9 1 A n c (L.map encStr)) (hl : n ≤ 1000000000000) :
    Calls Try.prog 38 #[.slice A n c] w fun e w' => ∃ n', e = .returned (.slice A n' c) ∧ Own w' B 9 1 A n' c ((Lib.compact L).map encStr) ∧ n' ≤ n ∧ w.grownBy w' (blkOf A) := by
  have hn : L.length = n := by simpa using ho.1
  rcases ho.2 with ⟨rfl, rfl, rfl⟩ | ⟨g, rest, rfl, hb, hr, h1, h2, h3⟩
  · refine (Try.slices_Compact_string_empty none 0 w).mono fun e w' ⟨he, hw⟩ => ?_
    subst hw
    have : L = [] := List.eq_nil_of_length_eq_zero hn
    subst this
    exact ⟨0, he, by simpa [Lib.compact, Lib.compactUpTo] using ho, Nat.le_refl _, only_refl _ _⟩
  · obtain ⟨g', cap, hv, hbg, hgl, hnc, hcm, hlen, hH⟩ := Lib.holds_of_ownsRow (enc := encStr) (zs := L) (ownsRow_of_own ho) (by intro h; cases h)
    cases hv
    subst hn
    have hle := Lib.compact_length_le L
    refine (Try.slices_Compact_string g 0 c L w hH (by omega) h1).mono fun e w' ⟨he, q, hw⟩ => ?_
    subst hw
    have hc := Lib.ownsRow_putRow (q := q) (k := (Lib.compact L).length) (ys := Lib.compact L ++ List.replicate (L.length - (Lib.compact L).length) []) (ownsRow_of_own ho) (by simp; omega) (by omega)
    rw [List.take_left] at hc
    obtain ⟨A', c', e1, ho'⟩ := own_of_ownsRow hc
    cases e1
    exact ⟨_, he, ho', hle, by have := grownBy_sorted (w := w) (g := g) (n := q) (os := #[]) (Lib.compact L ++ List.replicate (L.length - (Lib.compact L).length) []).toArray; rw [grow_empty] at this; exact this⟩

end Go.Proofs.Ytbhgocpenbibgaa
/- Beside the print: slices.Sort, Compact at []string. -/
set_option linter.unusedVariables false
namespace Go.Proofs.Ytbhgocpenbibgaa.PX
open Go.RowKit Go.Proofs.YtbhgocpenbibgaaW.PrintWords Go.Proofs.YtbhgocpenbibgaaW.PrintLast Go.Proofs.YtbhgocpenbibgaaW.PrintMore Go.Proofs.Ytbhgocpenbibgaa

theorem map_ba (L : List Str) : (L.map ba).map Value.string = L.map encStr := by simp [ba]
theorem encs_enc (l : List ByteArray) : encs Value.string l = (l.map tl).map encStr := by
  rw [← map_ba, map_ba_tl]; rfl
theorem enc_encs (l : List Str) : l.map encStr = encs Value.string (l.map ba) := (map_ba l).symm
def sortB (l : List ByteArray) : List ByteArray := ((l.map tl).mergeSort fun x y => decide (x ≤ y)).map ba
def compactB (l : List ByteArray) : List ByteArray := (Lib.compact (l.map tl)).map ba
theorem sortB_length (l : List ByteArray) : (sortB l).length = l.length := by simp [sortB, List.length_mergeSort]

theorem R_of_Own {w : World} {B : Nat} {A : Option Addr} {n c : Nat} {L : List Str} {ok : Nat → Prop} (h : Own w B 9 1 A n c (L.map encStr)) (hok : ∀ k, (Value.slice A n c).ownBlock = some k → ok k) : Kd.R Kd.string 9 w B ok (.slice A n c) (L.map ba) := by
  have hn : L.length = n := by simpa using h.1
  refine Kd.R_of_own ?_ hok
  have := ownsRow_of_own h
  rw [enc_encs] at this
  rw [List.length_map, hn]
  exact this
theorem Own_of_R {w : World} {B : Nat} {A : Option Addr} {n c : Nat} {l : List ByteArray} {ok : Nat → Prop} (h : Kd.R Kd.string 9 w B ok (.slice A n c) l) : n = l.length ∧ Own w B 9 1 A l.length c ((l.map tl).map encStr) := by
  have hn := (Kd.R_reads' h).1
  subst hn
  have ho := Kd.own_of_R h
  rw [encs_enc] at ho
  obtain ⟨A', c', e1, ho'⟩ := own_of_ownsRow ho
  cases e1
  exact ⟨rfl, ho'⟩
theorem blk_own {A : Option Addr} {n c : Nat} {w : World} {B : Nat} {e : TypeId} {k : Nat} {xs : List Value} (h : Own w B e k A n c xs) : blkOf A = (Value.slice A n c).ownBlock := by
  rcases h.2 with ⟨rfl, _⟩ | ⟨g, rest, rfl, _⟩ <;> rfl

def slices_Sort_string_string.f (l0 : List ByteArray) : Option (List ByteArray) := if l0.length ≤ 1000000000000 then some (sortB l0) else none
theorem slices_Sort_string_string.calls (P0_ : Nat → Prop) (u9000_ : Value) (l0 : List ByteArray) (r : List ByteArray) (w0 w : World) (hB : Below w0.heap.size w0 w) (ho0 : Kd.R Kd.string 9 w w0.heap.size P0_ u9000_ l0) (h : slices_Sort_string_string.f l0 = some r) :
    Calls Try.prog 36 #[u9000_] w fun e w' => e = .returned (.tuple #[]) ∧ Kd.R Kd.string 9 w' w0.heap.size (fun k_ => (P0_ k_ ∨ w.heap.size ≤ k_)) u9000_ r ∧ Below w0.heap.size w0 w' ∧ Kept w w' (fun k_ => P0_ k_) := by
  unfold slices_Sort_string_string.f at h
  split at h
  · rename_i hl
    injection h with h
    subst h
    obtain ⟨A, c, rfl⟩ := Kd.R_slice ho0
    obtain ⟨_, ho⟩ := Own_of_R ho0
    have hblk := blk_own ho
    have hbase : ∀ k, blkOf A = some k → w0.heap.size ≤ k := fun k hk => (ho.blk k hk).1
    refine (sort_own _ A l0.length c (l0.map tl) w ho hl).mono fun e w' ⟨he, ho2, hg⟩ => ⟨he, ?_, pw_below_grown hB (blkOf A) hB.size hg hbase, Kept.of_grown hg (Kept.refl w _) (fun k hk => .inl (ho0.1 k (hblk ▸ hk)))⟩
    exact R_of_Own ho2 (fun k hk => .inl (ho0.1 k hk))
  · cases h

def slices_Compact_string_string.f (l0 : List ByteArray) : Option (List ByteArray) := if l0.length ≤ 1000000000000 then some (compactB l0) else none
theorem slices_Compact_string_string.calls (P0_ : Nat → Prop) (u9000_ : Value) (l0 : List ByteArray) (r : List ByteArray) (w0 w : World) (hB : Below w0.heap.size w0 w) (ho0 : Kd.R Kd.string 9 w w0.heap.size P0_ u9000_ l0) (h : slices_Compact_string_string.f l0 = some r) :
    Calls Try.prog 38 #[u9000_] w fun e w' => ∃ v0_ : Value, e = .returned (v0_) ∧ Kd.R Kd.string 9 w' w0.heap.size (fun k_ => (P0_ k_ ∨ w.heap.size ≤ k_)) v0_ r ∧ Below w0.heap.size w0 w' ∧ Kept w w' (fun k_ => P0_ k_) := by
  unfold slices_Compact_string_string.f at h
  split at h
  · rename_i hl
    injection h with h
    subst h
    obtain ⟨A, c, rfl⟩ := Kd.R_slice ho0
    obtain ⟨_, ho⟩ := Own_of_R ho0
    have hblk := blk_own ho
    have hbase : ∀ k, blkOf A = some k → w0.heap.size ≤ k := fun k hk => (ho.blk k hk).1
    refine (compact_own _ A l0.length c (l0.map tl) w ho hl).mono fun e w' ⟨n', he, ho2, hn2, hg⟩ => ⟨_, he, ?_, pw_below_grown hB (blkOf A) hB.size hg hbase, Kept.of_grown hg (Kept.refl w _) (fun k hk => .inl (ho0.1 k (hblk ▸ hk)))⟩
    exact R_of_Own ho2 (fun k hk => .inl (ho0.1 k (by rw [← hk, ← blk_own ho2, hblk])))
  · cases h

end Go.Proofs.Ytbhgocpenbibgaa.PX
-- written by wip/tools/hybrid.py (over the kit's print.py, with functions proved by hand beside it) for this claim
namespace Go.Proofs.Ytbhgocpenbibgaa.PX
open Go.RowKit Go.Proofs.YtbhgocpenbibgaaW.PrintWords Go.Proofs.YtbhgocpenbibgaaW.PrintLast Go.Proofs.YtbhgocpenbibgaaW.PrintMore
attribute [local go_sem] max2_int min2_int max_two min_two max_three min_three max_four min_four   -- for this text's walks alone
set_option linter.unusedVariables false
set_option linter.unusedSimpArgs false

/-! ### tree_own: function 40 -/
mutual
def tree_own.l0 : Nat → List (S45) → List (S45) → Int → Int → Option ((List (S45)))
  | 0, _, _, _, _ => none
  | k + 1, x3, x9, x10, x11 => if x11 < x10 then (if 0 ≤ x11 then (if x11 < (x9.length : Int) then ((tree_own.f k ((rd_T45 x9 x11).f1)).bind fun t125 => (if x11 < (x3.length : Int) then (tree_own.l0 k (x3.set (x11 : Int).toNat (⟨(rd_T45 x9 x11).f0, t125⟩ : S45)) x9 x10 (wrap64 (x11 + 1))) else (none))) else (none)) else (none)) else (some x3)
def tree_own.f : Nat → List (S45) → Option ((List (S45)))
  | 0, _ => none
  | k + 1, l0 => if 0 ≤ (l0.length : Int) then (if ((l0.length : Int) : Int).toNat ≤ 7036874417766 then (tree_own.l0 k (List.replicate ((l0.length : Int) : Int).toNat z45) l0 (l0.length : Int) 0) else (none)) else (none)
end
theorem tree_own.mono_l : ∀ k, (∀ y0, LeO (tree_own.f k y0) (tree_own.f (k + 1) y0)) ∧ (∀ y0 y1 y2 y3, LeO (tree_own.l0 k y0 y1 y2 y3) (tree_own.l0 (k + 1) y0 y1 y2 y3))
  | 0 => ⟨fun _ r h => by simp [tree_own.f] at h, fun _ _ _ _ r h => by simp [tree_own.l0] at h⟩
  | k + 1 => by
    obtain ⟨ih0, ih1⟩ := tree_own.mono_l k
    refine ⟨?_, ?_⟩
    · intro y0
      unfold tree_own.f
      repeat' first
      | (with_reducible exact ih0 _)
      | (with_reducible exact ih1 _ _ _ _)
      | (with_reducible exact LeO.refl _)
      | (with_reducible exact LeO.none _)
      | (with_reducible refine LeO.ite ?_ ?_)
      | (with_reducible refine LeO.bind ?_ (fun _ => ?_))
      | exact ih0 _
      | exact ih1 _ _ _ _
      | exact LeO.none _
      | refine LeO.ite ?_ ?_
      | refine LeO.bind ?_ (fun _ => ?_)
    · intro y0 y1 y2 y3
      unfold tree_own.l0
      repeat' first
      | (with_reducible exact ih0 _)
      | (with_reducible exact ih1 _ _ _ _)
      | (with_reducible exact LeO.refl _)
      | (with_reducible exact LeO.none _)
      | (with_reducible refine LeO.ite ?_ ?_)
      | (with_reducible refine LeO.bind ?_ (fun _ => ?_))
      | exact ih0 _
      | exact ih1 _ _ _ _
      | exact LeO.none _
      | refine LeO.ite ?_ ?_
      | refine LeO.bind ?_ (fun _ => ?_)
theorem tree_own.mono : ∀ a0 k, LeO (tree_own.f k a0) (tree_own.f (k + 1) a0) := by
  intro a0 k
  obtain ⟨ih0, ih1⟩ := tree_own.mono_l k
  exact ih0 a0
def tree_own.T5 : Bool × List (List Nat × List Nat) := (true, [([], []), ([], []), ([], []), ([2], [2]), ([], []), ([4], [4]), ([5], [5]), ([3, 6], [3, 6]), ([0, 1, 0, 1, 2, 3, 4, 5, 6, 7], [0, 1]), ([8, 7, 6, 0, 1, 2, 3, 4, 5, 6, 7], [7, 8])])
def tree_own.B5 : List Nat := [0, 0, 0, 4, 0, 16, 48, 124, 255, 511]
theorem tree_own.tab5 : rtab .any (opsOf Try.f40 5) = tree_own.T5 := by kernel_rfl
theorem tree_own.bits5 : waitsOk tree_own.T5.2 tree_own.B5 = true := by kernel_rfl
set_option maxHeartbeats 8000000 in
set_option maxRecDepth 100000 in
theorem tree_own.calls (k : Nat) : ∀ (A0 : Option Addr) (c0 : Nat) (l0 : List (S45)) (r : List (S45)) (w : World) (hr0 : Kd.C k45 w A0 l0.length l0) (hc0 : l0.length ≤ c0) (h : tree_own.f k l0 = some r),
    Calls Try.prog 40 #[.slice A0 l0.length c0] w fun e w' => ∃ v0_ : Value, e = .returned (v0_) ∧ Kd.N k45 45 w' w.heap.size (fun k_ => (w.heap.size ≤ k_)) v0_ r ∧ Below w.heap.size w w' := by
  induction k using Nat.strongRecOn with
  | _ k ih =>
  intro A0 c0 l0 r w hr0 hc0 h
  cases k with
  | zero => exact absurd h (by simp [tree_own.f])
  | succ k =>
  simp only [tree_own.f] at h
  have hu45 := Try.underlying45
  have HR0 := Aside0.mk hr0
  have HC0 := Aside0.mk hc0
  clear hr0 hc0
  have HB := Aside0.mk (Below.refl w.heap.size w)
  have H : (if 0 ≤ (l0.length : Int) then (if ((l0.length : Int) : Int).toNat ≤ 7036874417766 then (tree_own.l0 k (List.replicate ((l0.length : Int) : Int).toNat z45) l0 (l0.length : Int) 0) else (none)) else (none)) = some r := h
  clear h
  by_cases c2 : 0 ≤ (l0.length : Int)
  · rw [if_pos c2] at H
    have c2b0 := eq_true c2
    have c2b1 : decide (0 ≤ (l0.length : Int)) = true := decide_eq_true c2
    clear c2
    by_cases c3 : ((l0.length : Int) : Int).toNat ≤ 7036874417766
    · rw [if_pos c3] at H
      have c3b0 := eq_true c3
      have c3b1 : decide (((l0.length : Int) : Int).toNat ≤ 7036874417766) = true := decide_eq_true c3
      clear c3
      obtain ⟨y120, hy120⟩ : ∃ y_ : List (S45), y_ = (List.replicate ((l0.length : Int) : Int).toNat z45) := ⟨_, rfl⟩
      replace H : (tree_own.l0 k y120 l0 (l0.length : Int) 0) = some r := by first | (rw [hy120]; with_reducible exact H) | (have H2_ := (Option.bind_some _ _).symm.trans H; rw [hy120]; with_reducible exact H2_) | (have H2_ := (Option.bind_some _ _).symm.trans H; with_reducible exact H2_) | with_reducible exact H | (rw [hy120]; exact H) | exact H
      have Ny120 := Aside0.mk hy120
      clear hy120
      have H' := Aside0.mk H
      clear H
      go_enter Try.func40, Try.ntmps40
      go_wp2_with (first | ((with_reducible refine gate_dst (N := 8) rfl ?_); refine Kd.N_make k45 _ 45 rfl (N' := 8) rfl 26 _ _ rfl (l0.length : Int) rfl rfl Try.underlying26 (.agg #[(.string ⟨#[]⟩), (.slice none 0 0)]) 40 info45 rfl (by decide) (by omega) z45 (ok := fun k_ => w.heap.size ≤ k_) (okp := fun _ => False) (k45_mkF _ _ z45 (Nat.le_refl _) (Kd.F_nil _ _ _)) (fun _ hk => hk.elim) (Nat.le_refl _) (of_decide_eq_true (by first | (with_reducible assumption) | assumption)) (Nat.le_trans (Nat.mul_le_mul_right _ (of_decide_eq_true (by first | (with_reducible assumption) | assumption) : (l0.length : Int).toNat ≤ 7036874417766)) (by omega)) (Below.refl _ _) (Nat.le_refl _) ?_; intro v121 w4 ho5 hb hg_ hnew_; clear hg_ hnew_; (first | rw [← Ny120.out] at ho5 | (simp only [Int.reduceToNat] at ho5; rw [← Ny120.out] at ho5)); have n0_ := Aside0.mk (Kd.N_lower (Kd.N_mono (ok' := fun k_ => (w.heap.size ≤ k_)) ho5 (fun k_ hk_ => (Nat.le_trans (below_size (by repeat (first | (with_reducible first | exact HB.out | apply bA_ | apply bN_ | apply bD_) | exact HB.out))) hk_))) (below_size (by repeat (first | (with_reducible first | exact HB.out | apply bA_ | apply bN_ | apply bD_) | exact HB.out)))); have n1_ := Aside0.mk (below_step (by repeat (first | (with_reducible first | exact HB.out | apply bA_ | apply bN_ | apply bD_) | exact HB.out)) hb); clear HB; have HO122 := n0_; have HB := n1_; clear n0_ n1_; clear hb ho5))
      go_loopg [11] k (fun kq v11 w' => ∃ (x3_1 : List (S45)) (x11_1 : Int), v11 = .int .i64 x11_1 ∧ Aside0 (tree_own.l0 kq x3_1 l0 (l0.length : Int) x11_1 = some r) ∧ Aside0 (kq ≤ k) ∧ Aside0 (Kd.N k45 45 w' w.heap.size (fun k_ => (w.heap.size ≤ k_)) v121 x3_1) ∧ Aside0 (Below w.heap.size w w'))
      case atStart => exact ⟨(y120), (0), (by first | rfl | (simp; done) | (simp [*]; done)), H', ⟨Nat.le_refl _⟩, ⟨by (with_reducible repeat (first | apply nA_ | apply nN_ | apply nD_)); exact HO122.out⟩, ⟨by repeat (first | (with_reducible first | exact HB.out | apply bA_ | apply bN_ | apply bD_) | exact HB.out)⟩⟩
      case round =>
        clear H'
        try clear c2
        try clear c2b0
        try clear c2b1
        try clear p2
        try clear c3
        try clear c3b0
        try clear c3b1
        try clear c4
        obtain ⟨x3_1, x11_1, rfl, HA, HK1, HO_3, HB⟩ := hrel
        cases gk with
        | zero => exact absurd HA.out (by simp [tree_own.l0])
        | succ k1 =>
          have H := HA.out
          clear HA
          simp only [tree_own.l0] at H
          by_cases c6 : x11_1 < (l0.length : Int)
          · rw [if_pos c6] at H
            have c6b0 : decide (x11_1 < (l0.length : Int)) = true := decide_eq_true c6
            clear c6
            by_cases c7 : 0 ≤ x11_1
            · rw [if_pos c7] at H
              have c7b0 : decide (0 ≤ x11_1) = true := decide_eq_true c7
              clear c7
              by_cases c8 : x11_1 < (l0.length : Int)
              · rw [if_pos c8] at H
                have c8b0 : decide (x11_1 < (l0.length : Int)) = true := decide_eq_true c8
                clear c8
                replace H := Option.bind_eq_some_iff.mp H
                obtain ⟨t125, A90, H⟩ := H
                replace H : (if x11_1 < (x3_1.length : Int) then (tree_own.l0 k1 (x3_1.set (x11_1 : Int).toNat (⟨(rd_T45 l0 x11_1).f0, t125⟩ : S45)) l0 (l0.length : Int) (wrap64 (x11_1 + 1))) else (none)) = some r := H
                have A9 := Aside0.mk A90
                clear A90
                by_cases c10 : x11_1 < (x3_1.length : Int)
                · rw [if_pos c10] at H
                  have c10b0 : decide (x11_1 < (x3_1.length : Int)) = true := decide_eq_true c10
                  clear c10
                  obtain ⟨y128, hy128⟩ : ∃ y_ : List (S45), y_ = (x3_1.set (x11_1 : Int).toNat (⟨(rd_T45 l0 x11_1).f0, t125⟩ : S45)) := ⟨_, rfl⟩
                  replace H : (tree_own.l0 k1 y128 l0 (l0.length : Int) (wrap64 (x11_1 + 1))) = some r := by first | (rw [hy128]; with_reducible exact H) | (have H2_ := (Option.bind_some _ _).symm.trans H; rw [hy128]; with_reducible exact H2_) | (have H2_ := (Option.bind_some _ _).symm.trans H; with_reducible exact H2_) | with_reducible exact H | (rw [hy128]; exact H) | exact H
                  have Ny128 := Aside0.mk hy128
                  clear hy128
                  have H' := Aside0.mk H
                  clear H
                  have p123 : 0 ≤ (x11_1 : Int) := of_decide_eq_true (by first | (with_reducible assumption) | assumption)
                  have q123 : x11_1 < (l0.length : Int) := of_decide_eq_true (by first | (with_reducible assumption) | assumption)
                  obtain ⟨ad123, A123_1, c123_1, e123, hx123_0, hx123_1, hl123_1, hi123_1⟩ := at_T45 HR0.out x11_1 p123 q123
                  cases e123
                  replace hx123_0 := (HB.out.cell (World.block_lt_of_cell? w _ hx123_0)).trans hx123_0
                  replace hx123_1 := (HB.out.cell (World.block_lt_of_cell? w _ hx123_1)).trans hx123_1
                  have HR123_1 := Aside0.mk hi123_1
                  have HC123_1 := Aside0.mk hl123_1
                  clear hi123_1 hl123_1
                  replace p123 := eq_true p123
                  replace q123 := eq_true q123
                  try go_wp2_with (first | ((with_reducible refine gate_dst (N := 5) rfl ?_); refine box_event ?hg (N := 5) ?hd (cs := #[.string (⟨#[]⟩ : ByteArray), .slice none 0 0]) (t := 45) ?hr ?_; (case hd => rfl); (case hg => rfl); (case hr => first | (go_simp; done) | (go_simp; rfl)); intro gb124 hg w12 hbox hb; have n0_ := Aside0.mk (Kd.N_below (Kd.N_elderB (by (with_reducible repeat (first | apply nA_ | apply nN_ | apply nD_)); exact HO_3.out) gb124 (Nat.le_of_eq hg.symm)) hb); have n1_ := Aside0.mk (below_step (by repeat (first | (with_reducible first | exact HB.out | apply bA_ | apply bN_ | apply bD_) | exact HB.out)) hb); have n2_ := Aside0.mk (hbox); have n3_ := Aside0.mk ((by rw [hg]; exact (below_size (by repeat (first | (with_reducible first | exact HB.out | apply bA_ | apply bN_ | apply bD_) | exact HB.out))) : w.heap.size ≤ gb124)); have n4_ := Aside0.mk ((by rw [hg]; exact (below_size (by repeat (first | (with_reducible first | exact HB.out | apply bA_ | apply bN_ | apply bD_) | exact HB.out))) : w.heap.size ≤ gb124)); clear HO_3; clear HB; have HO_3 := n0_; have HB := n1_; have BK124 := n2_; have GW124 := n3_; have GE124 := n4_; clear n0_ n1_ n2_ n3_ n4_; clear hb hbox hg; have hcz13_0 : w12.cell? ⟨gb124, 0, none⟩ = some (.string (⟨#[]⟩ : ByteArray)) := (blk_cell BK124.out 0).trans rfl; have hcz13_1 : w12.cell? ⟨gb124, 1, none⟩ = some (.slice none 0 0) := (blk_cell BK124.out 1).trans rfl; have hfz13_0 := blk_frozen BK124.out 0; have hfz13_1 := blk_frozen BK124.out 1))
                  have n0_ : Aside0 (Kd.N k45 45 ((w12.setCell ⟨gb124, 0, none⟩ (.string ((rd_T45 l0 x11_1).f0))).setCell ⟨gb124, 1, none⟩ (.slice A123_1 ((rd_T45 l0 x11_1).f1).length c123_1)) w.heap.size (fun k_ => (w.heap.size ≤ k_) ∧ k_ ≠ gb124) v121 x3_1) := ⟨by (with_reducible repeat (first | apply nA_ | apply nN_ | apply nD_)); exact Kd.N_mono (Kd.N_far (p := ⟨gb124, 1, none⟩) (Kd.N_far (p := ⟨gb124, 0, none⟩) (Kd.N_mono HO_3.out (fun k_ hk => (⟨hk, hk.2⟩ : _ ∧ k_ ≠ gb124))) (fun _ hk => hk.2) (.string ((rd_T45 l0 x11_1).f0))) (fun _ hk => hk.2) (.slice A123_1 ((rd_T45 l0 x11_1).f1).length c123_1)) (fun _ hk => ⟨hk.1.1, hk.1.2⟩)⟩
                  have n1_ : Aside0 (((w12.setCell ⟨gb124, 0, none⟩ (.string ((rd_T45 l0 x11_1).f0))).setCell ⟨gb124, 1, none⟩ (.slice A123_1 ((rd_T45 l0 x11_1).f1).length c123_1)).heap[gb124]? = some (.cells #[.string ((rd_T45 l0 x11_1).f0), .slice A123_1 ((rd_T45 l0 x11_1).f1).length c123_1] 45 (0, 0))) := ⟨by (with_reducible repeat (first | refine blk_drewN ?_ _ | refine blk_drew ?_ | refine blk_alloc ?_ _)); refine blk_put (cs := #[.string ((rd_T45 l0 x11_1).f0), .slice none 0 0]) ?_ 1 _ rfl; (with_reducible repeat (first | refine blk_drewN ?_ _ | refine blk_drew ?_ | refine blk_alloc ?_ _)); refine blk_put (cs := #[.string (⟨#[]⟩ : ByteArray), .slice none 0 0]) ?_ 0 _ rfl; (with_reducible repeat (first | refine blk_drewN ?_ _ | refine blk_drew ?_ | refine blk_alloc ?_ _)); exact BK124.out⟩
                  have n2_ : Aside0 (Below w.heap.size w ((w12.setCell ⟨gb124, 0, none⟩ (.string ((rd_T45 l0 x11_1).f0))).setCell ⟨gb124, 1, none⟩ (.slice A123_1 ((rd_T45 l0 x11_1).f1).length c123_1))) := ⟨by repeat (first | (with_reducible first | exact HB.out | apply bA_ | apply bN_ | apply bD_ | refine below_set ?_ GE124.out) | exact HB.out)⟩
                  (try clear HO_3)
                  (try clear BK124)
                  (try clear HB)
                  generalize ((w12.setCell ⟨gb124, 0, none⟩ (.string ((rd_T45 l0 x11_1).f0))).setCell ⟨gb124, 1, none⟩ (.slice A123_1 ((rd_T45 l0 x11_1).f1).length c123_1)) = w14 at n0_ n1_ n2_ ⊢
                  have HO_3 := n0_
                  have BK124 := n1_
                  have HB := n2_
                  clear n0_ n1_ n2_
                  have n0_ := Aside0.mk (nD_ HO_3.out)
                  have n1_ := Aside0.mk (blk_drew BK124.out)
                  have n2_ := Aside0.mk (bD_ HB.out)
                  clear HO_3
                  clear BK124
                  clear HB
                  have HO_3 := n0_
                  have BK124 := n1_
                  have HB := n2_
                  clear n0_ n1_ n2_
                  refine start_ (n := 10) (S := fun w' => w'.cell? ⟨gb124, 0, none⟩ = some (.string ((rd_T45 l0 x11_1).f0)) ∧ w'.cell? ⟨gb124, 1, none⟩ = some (.slice A123_1 ((rd_T45 l0 x11_1).f1).length c123_1)) (ds := [9]) #[false, false, false, false, false, false, false, false, false, false] (by kernel_rfl) rfl rfl ⟨(blk_cell BK124.out 0).trans rfl, (blk_cell BK124.out 1).trans rfl⟩ (fun hHeld => ?_); refine with_tabW tree_own.tab5 tree_own.bits5 (fun HT_ HW_ => ?_)
                  generalize w14.drew = w15 at HO_3 BK124 HB hHeld ⊢
                  refine pure_ (i := 0) (N := some 16) (v := ?_) (a' := ?_) #[true, false, false, false, false, false, false, false, false, false] rfl rfl (any_of HT_.out (by kernel_rfl)) (fun _ _ _ h => h) (Or.inl ⟨by rfl, ?_⟩) ?_ ?_
                  rotate_left
                  · intro w'
                    go_simp
                    with_reducible rfl
                  rotate_left
                  · simp only [Act.put, List.setIfInBounds_toArray, List.set_cons_zero, List.set_cons_succ, i64_w, i32_w]
                    rfl
                  refine pure_ (i := 1) (N := some 17) (v := ?_) (a' := ?_) #[true, true, false, false, false, false, false, false, false, false] rfl rfl (any_of HT_.out (by kernel_rfl)) (fun _ _ _ h => h) (Or.inl ⟨by rfl, ?_⟩) ?_ ?_
                  rotate_left
                  · intro w'
                    go_simp
                    with_reducible rfl
                  rotate_left
                  · simp only [Act.put, List.setIfInBounds_toArray, List.set_cons_zero, List.set_cons_succ, i64_w, i32_w]
                    rfl
                  refine pure_ (i := 2) (N := some 18) (v := ?_) (a' := ?_) #[true, true, true, false, false, false, false, false, false, false] rfl rfl (any_of HT_.out (by kernel_rfl)) (fun _ _ _ h => h) (Or.inl ⟨by rfl, ?_⟩) ?_ ?_
                  rotate_left
                  · intro w'
                    go_simp
                    with_reducible rfl
                  rotate_left
                  · simp only [Act.put, List.setIfInBounds_toArray, List.set_cons_zero, List.set_cons_succ, i64_w, i32_w]
                    rfl
                  refine pure_ (i := 4) (N := some 20) (v := ?_) (a' := ?_) #[true, true, true, false, true, false, false, false, false, false] rfl rfl (any_of HT_.out (by kernel_rfl)) (fun _ _ _ h => h) (Or.inl ⟨by rfl, ?_⟩) ?_ ?_
                  rotate_left
                  · intro w'
                    go_simp
                    with_reducible rfl
                  rotate_left
                  · simp only [Act.put, List.setIfInBounds_toArray, List.set_cons_zero, List.set_cons_succ, i64_w, i32_w]
                    rfl
                  refine take_ (i := 3) (N := some 19) (v := ?_) (a' := ?_) #[true, true, true, true, true, false, false, false, false, false] rfl rfl (take_ofW HT_.out HW_.out (by kernel_rfl)) (fun _ _ _ h => h) (Or.inl ⟨by rfl, ?_⟩) hHeld ?_ ?_
                  rotate_left
                  · rintro w' ⟨s0, s1⟩
                    go_simp
                    with_reducible rfl
                  rotate_left
                  · simp only [Act.put, List.setIfInBounds_toArray, List.set_cons_zero, List.set_cons_succ, i64_w, i32_w]
                    rfl
                  refine take_ (i := 5) (N := some 21) (v := ?_) (a' := ?_) #[true, true, true, true, true, true, false, false, false, false] rfl rfl (take_ofW HT_.out HW_.out (by kernel_rfl)) (fun _ _ _ h => h) (Or.inl ⟨by rfl, ?_⟩) hHeld ?_ ?_
                  rotate_left
                  · rintro w' ⟨s0, s1⟩
                    go_simp
                    with_reducible rfl
                  rotate_left
                  · simp only [Act.put, List.setIfInBounds_toArray, List.set_cons_zero, List.set_cons_succ, i64_w, i32_w]
                    rfl
                  refine one_ (i := 6) (N := some 22) #[true, true, true, true, true, true, true, false, false, false] rfl rfl (one_of HT_.out (by kernel_rfl)) (by decide) (fun K hK => ?_)
                  refine goes_ Try.func40 (by kernel_rfl) rfl #[.slice A123_1 ((rd_T45 l0 x11_1).f1).length c123_1] (by rfl) rfl rfl (by (try simp only [List.map_toArray, List.map_cons, List.map_nil]); first | done | rfl | (simp only [List.length_drop, List.length_take]; rfl)) ?_
                  with_reducible refine (ih k1 (by have := HK1.out; omega) _ _ ((rd_T45 l0 x11_1).f1) t125 _ ?side1 ?side2 A9.out).mono ?_
                  (case side1 => repeat (first | exact (Kd.C_below HR123_1.out HB.out) | (with_reducible refine cA_ ?_ _) | (with_reducible refine cN_ ?_ _) | (with_reducible refine cD_ ?_)))
                  (case side2 => exact HC123_1.out)
                  rintro e w16 ⟨v126, rfl, ho0, hb⟩
                  refine ⟨_, rfl, ?_⟩
                  have n0_ := Aside0.mk (Kd.N_elder' (by (with_reducible repeat (first | apply nA_ | apply nN_ | apply nD_)); exact HO_3.out) (Kd.N_base ho0) hb)
                  have n1_ := Aside0.mk (Kd.N_lower (Kd.N_mono (ok' := fun k_ => (w.heap.size ≤ k_) ∧ some k_ ≠ (v121 : Value).ownBlock ∧ k_ ≠ gb124) ho0 (fun k_ hk_ => ⟨(Nat.le_trans (below_size (by repeat (first | (with_reducible first | exact HB.out | apply bA_ | apply bN_ | apply bD_ | refine below_set ?_ GE124.out) | exact HB.out))) hk_), (Kd.fresh' (Kd.N_lt (by (with_reducible repeat (first | apply nA_ | apply nN_ | apply nD_)); exact HO_3.out)) k_ hk_), (Kd.freshB (g := gb124) (o := .cells #[.string ((rd_T45 l0 x11_1).f0), .slice A123_1 ((rd_T45 l0 x11_1).f1).length c123_1] 45 (0, 0)) (by (with_reducible repeat (first | refine blk_drewN ?_ _ | refine blk_drew ?_ | refine blk_alloc ?_ _)); exact BK124.out) k_ hk_)⟩)) (below_size (by repeat (first | (with_reducible first | exact HB.out | apply bA_ | apply bN_ | apply bD_ | refine below_set ?_ GE124.out) | exact HB.out))))
                  have n2_ := Aside0.mk (blk_below (g := gb124) (o := .cells #[.string ((rd_T45 l0 x11_1).f0), .slice A123_1 ((rd_T45 l0 x11_1).f1).length c123_1] 45 (0, 0)) (by (with_reducible repeat (first | refine blk_drewN ?_ _ | refine blk_drew ?_ | refine blk_alloc ?_ _)); exact BK124.out) hb)
                  have n3_ := Aside0.mk (below_step (by repeat (first | (with_reducible first | exact HB.out | apply bA_ | apply bN_ | apply bD_ | refine below_set ?_ GE124.out) | exact HB.out)) hb)
                  clear HO_3
                  clear BK124
                  clear HB
                  have HO_3 := n0_
                  have HO127 := n1_
                  have BK124 := n2_
                  have HB := n3_
                  clear n0_ n1_ n2_ n3_
                  (try clear hb)
                  (try clear hb2)
                  (try clear hk)
                  (try clear hi)
                  (try clear ho0)
                  obtain ⟨Ao17, co17, eo17⟩ := Kd.N_slice HO127.out
                  (first | subst eo17 | (injection eo17 with f1_ f2_ f3_; have f4_ := f1_.symm; have f5_ := f3_.symm; clear f1_ f2_ f3_; subst f4_; subst f5_))
                  have p11 : 0 ≤ (x11_1 : Int) := of_decide_eq_true (by first | (with_reducible assumption) | assumption)
                  have q11 : (x11_1 : Int) < ((x3_1.length : Int) : Int) := of_decide_eq_true (by first | (with_reducible assumption) | assumption)
                  obtain ⟨go11, co11, eo11, gb11, gl11, cl11, HG11⟩ := Kd.N_form HO_3.out (by omega)
                  (first | cases eo11 | (injection eo11 with ea_ en_ ec_; (first | subst ea_ | (injection ea_ with ea_; subst ea_)); subst ec_; clear en_))
                  have GB11 := Aside0.mk gb11
                  have GG11 := Aside0.mk HG11
                  clear gb11 gl11 HG11
                  obtain ⟨ce11, hcl11, hM11, hcc11, hfr11⟩ := Kd.N_elem HO_3.out z45 (x11_1 : Int) p11 q11
                  obtain ⟨ua11_1, uc11_1, rfl, ul11_1, ge11_1⟩ := k45_openF hM11
                  have hx11_0 : World.cell? _ ⟨go11, (x11_1 : Int).toNat * 2, none⟩ = some (.string ((rd_T45 x3_1 x11_1).f0)) := hcc11 0 _ rfl
                  have hx11_1 : World.cell? _ ⟨go11, (x11_1 : Int).toNat * 2 + 1, none⟩ = some (.slice ua11_1 ((rd_T45 x3_1 x11_1).f1).length uc11_1) := hcc11 1 _ rfl
                  have hf11_0 : World.frozen? _ ⟨go11, (x11_1 : Int).toNat * 2, none⟩ = false := hfr11 0
                  have hf11_1 : World.frozen? _ ⟨go11, (x11_1 : Int).toNat * 2 + 1, none⟩ = false := hfr11 1
                  clear hcl11 hcc11 hfr11 hM11
                  replace p11 := eq_true p11
                  replace q11 := eq_true q11
                  have HX18 := Aside0.mk (show Kd.N k45 45 _ w.heap.size (fun k_ => (w.heap.size ≤ k_) ∧ some k_ ≠ (.slice Ao17 t125.length co17 : Value).ownBlock ∧ k_ ≠ gb124) (.slice (some ⟨go11, 0, none⟩) x3_1.length co11) x3_1 from (Kd.N_mono (HO_3.out) (fun k_ hk => ⟨hk.1.1, ⟨hk.2, hk.1.2⟩⟩)))
                  replace HX18 := Aside0.mk (show Kd.N k45 45 _ w.heap.size (fun k_ => (w.heap.size ≤ k_) ∧ k_ ≠ gb124) (.slice (some ⟨go11, 0, none⟩) x3_1.length co11) x3_1 from Kd.N_mono HX18.out (fun k_ hk => ⟨hk.1, hk.2.2⟩))
                  obtain ⟨ce18, hcl18, hM18, hcc18, hfr18⟩ := Kd.N_elem HX18.out z45 (x11_1 : Int) (of_decide_eq_true (by first | (with_reducible assumption) | assumption)) (by have h_ : (x11_1 : Int) < ((x3_1.length : Int) : Int) := of_decide_eq_true (by first | (with_reducible assumption) | assumption); first | exact h_ | (have e_ := (Kd.N_reads' HO_3.out).1; omega) | simpa using h_)
                  obtain ⟨ua18_1, uc18_1, rfl, ul18_1, ge18_1⟩ := k45_openF hM18
                  have HP18 := (Kd.N_seg HX18.out (x11_1 : Int) (of_decide_eq_true (by first | (with_reducible assumption) | assumption)) (by have h_ : (x11_1 : Int) < ((x3_1.length : Int) : Int) := of_decide_eq_true (by first | (with_reducible assumption) | assumption); first | exact h_ | (have e_ := (Kd.N_reads' HO_3.out).1; omega) | simpa using h_) (seg := [.string ((rd_T45 l0 x11_1).f0), .slice Ao17 t125.length co17]) (j := 0) hcl18 hcc18 (show 2 ≤ 2 from by decide) (x' := (⟨(rd_T45 l0 x11_1).f0, t125⟩ : S45)) (k45_mkF _ _ (⟨(rd_T45 l0 x11_1).f0, t125⟩ : S45) (Kd.N_reads' (Kd.N_mono (ok' := (fun k_ => ((fun k_ => (w.heap.size ≤ k_) ∧ k_ ≠ gb124)) k_ ∧ k_ ≠ go11)) (HO127.out) (fun k_ hk => ⟨⟨hk.1, hk.2.2⟩, fun e_ => (hk.2.1) (by rw [e_]; rfl)⟩))).2.1 (Kd.N_F (Kd.N_mono (ok' := (fun k_ => ((fun k_ => (w.heap.size ≤ k_) ∧ k_ ≠ gb124)) k_ ∧ k_ ≠ go11)) (HO127.out) (fun k_ hk => ⟨⟨hk.1, hk.2.2⟩, fun e_ => (hk.2.1) (by rw [e_]; rfl)⟩)))) (fun _ hk => hk)).1
                  rw [← Ny128.out] at HP18
                  have HQ18 := Aside0.mk HP18
                  clear hcl18 hcc18 hfr18 hM18 HP18
                  refine hK.out _ _ ⟨(blk_cell BK124.out 0).trans rfl, (blk_cell BK124.out 1).trans rfl⟩ (fun hHeld => ?_)
                  clear hK K
                  refine norm_ (a' := ?_) ?_ ?_
                  rotate_left
                  · show Act.put _ (some 22) _ = _
                    simp only [Act.put, List.setIfInBounds_toArray, List.set_cons_zero, List.set_cons_succ, i64_w, i32_w]
                    rfl
                  refine pure_ (i := 7) (N := some 23) (v := ?_) (a' := ?_) #[true, true, true, true, true, true, true, true, false, false] rfl rfl (any_of HT_.out (by kernel_rfl)) (fun _ _ _ h => h) (Or.inl ⟨by rfl, ?_⟩) ?_ ?_
                  rotate_left
                  · intro w'
                    go_simp
                    with_reducible rfl
                  rotate_left
                  · simp only [Act.put, List.setIfInBounds_toArray, List.set_cons_zero, List.set_cons_succ, i64_w, i32_w]
                    rfl
                  refine pure_ (i := 8) (N := some 24) (v := ?_) (a' := ?_) #[true, true, true, true, true, true, true, true, true, false] rfl rfl (any_of HT_.out (by kernel_rfl)) (fun _ _ _ h => h) (Or.inl ⟨by rfl, ?_⟩) ?_ ?_
                  rotate_left
                  · intro w'
                    go_simp
                    with_reducible rfl
                  rotate_left
                  · simp only [Act.put, List.setIfInBounds_toArray, List.set_cons_zero, List.set_cons_succ, i64_w, i32_w]
                    rfl
                  refine last_ (i := 9) (N := none) #[true, true, true, true, true, true, true, true, true, true] rfl rfl (one_of HT_.out (by kernel_rfl)) (by decide) (fun K hK => ?_)
                  refine skip_ (w1 := ?_) (by rfl) rfl ?_ ?_
                  rotate_left
                  · go_simp
                    rfl
                  refine hK.out _ _ ?_
                  clear hK K
                  refine done_ (done_of HT_.out (by kernel_rfl)) ?_
                  try go_wp2
                  go_roundg k1
                  case measure => have := HK1.out; omega
                  case rel => exact ⟨(y128), (wrap64 (x11_1 + 1)), (by first | rfl | (simp; done) | (simp [*]; done)), H', ⟨by have := HK1.out; omega⟩, ⟨by (with_reducible repeat (first | apply nA_ | apply nN_ | apply nD_)); exact Kd.N_mono HQ18.out (fun _ hk => hk.1)⟩, ⟨by repeat (first | (with_reducible first | exact HB.out | apply bA_ | apply bN_ | apply bD_ | refine below_set ?_ GB11.out | refine below_set ?_ GB11.out | refine below_set ?_ GE124.out) | exact HB.out)⟩⟩
                · rw [if_neg c10] at H
                  exact absurd H (by simp)
              · rw [if_neg c8] at H
                exact absurd H (by simp)
            · rw [if_neg c7] at H
              exact absurd H (by simp)
          · rw [if_neg c6] at H
            have c6b0 : decide (x11_1 < (l0.length : Int)) = false := decide_eq_false c6
            clear c6
            obtain rfl := Option.some.inj H
            go_wp2
            go_ret
            exact ⟨_, by first | rfl | (simp [errW_none, errW_some] <;> rfl) | (simp [*, errW_none, errW_some] <;> rfl), by (with_reducible repeat (first | apply nA_ | apply nN_ | apply nD_)); exact HO_3.out, by repeat (first | (with_reducible first | exact HB.out | apply bA_ | apply bN_ | apply bD_) | exact HB.out)⟩
    · rw [if_neg c3] at H
      exact absurd H (by simp)
  · rw [if_neg c2] at H
    exact absurd H (by simp)

end Go.Proofs.Ytbhgocpenbibgaa.PX
-- written by wip/tools/hybrid.py (over the kit's print.py, with functions proved by hand beside it) for this claim
namespace Go.Proofs.Ytbhgocpenbibgaa.PX
open Go.RowKit Go.Proofs.YtbhgocpenbibgaaW.PrintWords Go.Proofs.YtbhgocpenbibgaaW.PrintLast Go.Proofs.YtbhgocpenbibgaaW.PrintMore
attribute [local go_sem] max2_int min2_int max_two min_two max_three min_three max_four min_four   -- for this text's walks alone
set_option linter.unusedVariables false
set_option linter.unusedSimpArgs false

/-! ### slices_Clone_string_string_37: function 37 -/
def slices_Clone_string_string_37.f (l0 : List ByteArray) : Option (List ByteArray) := (some (([] : List ByteArray) : List ByteArray)).bind fun y101 => (if y101.length + l0.length < 8796093022208 then (some (y101 ++ l0)) else (none))
set_option maxHeartbeats 8000000 in
set_option maxRecDepth 100000 in
theorem slices_Clone_string_string_37.calls (A0 : Option Addr) (c0 : Nat) (l0 : List ByteArray) (r : List ByteArray) (w : World) (hr0 : Kd.C Kd.string w A0 l0.length l0) (hc0 : l0.length ≤ c0) (h : slices_Clone_string_string_37.f l0 = some r) :
    Calls Try.prog 37 #[.slice A0 l0.length c0] w fun e w' => ∃ v0_ : Value, e = .returned (v0_) ∧ Kd.R Kd.string 9 w' w.heap.size (fun _ => True) v0_ r ∧ Below w.heap.size w w' := by
  have q22 : ∀ (w : World) (a : Option Addr) (n c n' c' : Nat), (binOp .eql 31 (.slice a n c) (.slice none n' c')).run Try.prog w = .ok (.bool a.isNone) w := fun w a n c n' c' => Lib.run_eql_slice_nil w _ _ a n c n' c' Try.underlying31
  by_cases hA0 : A0 = none
  · have hl0 : l0 = [] := by
      cases l0 with
      | nil => rfl
      | cons x t_ =>
        obtain ⟨ad, e, _⟩ := (hr0).2.2 (by simp)
        exact absurd (hA0.symm.trans e) (by simp)
    subst hA0 hl0
    have hr_ : r = [] := by simpa [slices_Clone_string_string_37.f] using h.symm
    subst hr_
    clear h
    go_enter Try.func37, Try.ntmps37
    go_wp2
    go_ret
    exact ⟨.slice none 0 0, rfl, by first | exact Kd.R_nil _ _ _ _ _ | exact Kd.N_nil _ _ _ _ _ | exact Kd.S_nil _ _ _ _ _, Below.refl _ _⟩
  have hA1 : A0.isNone = false := by cases A0 with
    | none => exact absurd rfl hA0
    | some a => rfl
  clear hA0
  have HR0 := Aside0.mk hr0
  have HC0 := Aside0.mk hc0
  clear hr0 hc0
  have HB := Aside0.mk (Below.refl w.heap.size w)
  have H : ((some (([] : List ByteArray) : List ByteArray)).bind fun y101 => (if y101.length + l0.length < 8796093022208 then (some (y101 ++ l0)) else (none))) = some r := h
  clear h
  obtain ⟨y101, hy101⟩ : ∃ y_ : List ByteArray, y_ = (([] : List ByteArray)) := ⟨_, rfl⟩
  replace H : (if y101.length + l0.length < 8796093022208 then (some (y101 ++ l0)) else (none)) = some r := by first | (rw [hy101]; with_reducible exact H) | (have H2_ := (Option.bind_some _ _).symm.trans H; rw [hy101]; with_reducible exact H2_) | (have H2_ := (Option.bind_some _ _).symm.trans H; with_reducible exact H2_) | with_reducible exact H | (rw [hy101]; exact H) | exact H
  have Ny101 := Aside0.mk hy101
  clear hy101
  by_cases c2 : y101.length + l0.length < 8796093022208
  · rw [if_pos c2] at H
    have LMc2 := Aside0.mk c2
    clear c2
    obtain ⟨y104, hy104⟩ : ∃ y_ : List ByteArray, y_ = (y101 ++ l0) := ⟨_, rfl⟩
    replace H : (some y104) = some r := by first | (rw [hy104]; with_reducible exact H) | (have H2_ := (Option.bind_some _ _).symm.trans H; rw [hy104]; with_reducible exact H2_) | (have H2_ := (Option.bind_some _ _).symm.trans H; with_reducible exact H2_) | with_reducible exact H | (rw [hy104]; exact H) | exact H
    have Ny104 := Aside0.mk hy104
    clear hy104
    obtain rfl := Option.some.inj H
    go_enter Try.func37, Try.ntmps37
    go_wp2_with (first | ((with_reducible refine gate_dst (N := 5) rfl ?_); refine Kd.R_lit Kd.string _ 9 ?hg (N := 5) ?hd (xs := ([] : List ByteArray)) (inner := []) (ok := fun _ => True) (okp := fun _ => True) ?hr ?hp (fun _ hk => hk) trivial (Below.refl _ _) (Nat.le_refl _) (by simp) ?_; (case hd => rfl); (case hg => rfl); (case hr => first | (go_simp; done) | (go_simp; rfl)); (case hp => exact (Reps.none _ _)); intro v102 w3 ho4 hb hg_ hnew_; clear hg_ hnew_; (first | rw [← Ny101.out] at ho4 | (simp only [Int.reduceToNat] at ho4; rw [← Ny101.out] at ho4)); have n0_ := Aside0.mk (Kd.R_lower ho4 (below_size (by repeat (first | (with_reducible first | exact HB.out | apply bA_ | apply bN_ | apply bD_) | exact HB.out)))); have n1_ := Aside0.mk (below_step (by repeat (first | (with_reducible first | exact HB.out | apply bA_ | apply bN_ | apply bD_) | exact HB.out)) hb); clear HB; have HO103 := n0_; have HB := n1_; clear n0_ n1_; clear hb ho4) | ((with_reducible refine gate_builtin (b := .append) (xs := #[.tmp 5, .tmp 6]) rfl ?_); at_builtin; refine Kd.R_append_rows Kd.string (w0 := w) w.heap.size rfl (.tmp 5) (.tmp 6) 31 9 (.string ⟨#[]⟩) 16 rfl Try.underlying31 info9 rfl (by decide) (by omega) v102 y101 l0 _ _ _ (fun _ => True) (fun _ => False) rfl rfl ?aO ?aR (fun _ _ h => h) (fun _ h => h.elim) ?aF ?aB ?aS ?aL ?_; (case aR => repeat (first | exact (Kd.C_below HR0.out HB.out) | (with_reducible refine cA_ ?_ _) | (with_reducible refine cN_ ?_ _) | (with_reducible refine cD_ ?_))); (case aB => exact (by repeat (first | (with_reducible first | exact HB.out | apply bA_ | apply bN_ | apply bD_) | exact HB.out))); (case aF => exact (fun _ _ => trivial)); (case aO => exact (by (with_reducible repeat (first | apply rA_ | apply rN_ | apply rD_)); exact HO103.out)); (case aS => exact (below_size (by repeat (first | (with_reducible first | exact HB.out | apply bA_ | apply bN_ | apply bD_) | exact HB.out)))); (case aL => have := LMc2.out; omega); intro v105 w5 ho hb hg hat; rw [← Ny104.out] at ho; have n0_ := Aside0.mk (hb); have n1_ := Aside0.mk (ho); clear HB; clear HO103; have HB := n0_; have HO106 := n1_; clear n0_ n1_; clear ho hb hg hat))
    go_ret
    exact ⟨_, by first | rfl | (simp [errW_none, errW_some] <;> rfl) | (simp [*, errW_none, errW_some] <;> rfl), by (with_reducible repeat (first | apply rA_ | apply rN_ | apply rD_)); exact HO106.out, by repeat (first | (with_reducible first | exact HB.out | apply bA_ | apply bN_ | apply bD_) | exact HB.out)⟩
  · rw [if_neg c2] at H
    exact absurd H (by simp)

end Go.Proofs.Ytbhgocpenbibgaa.PX
-- written by wip/tools/hybrid.py (over the kit's print.py, with functions proved by hand beside it) for this claim
namespace Go.Proofs.Ytbhgocpenbibgaa.PX
open Go.RowKit Go.Proofs.YtbhgocpenbibgaaW.PrintWords Go.Proofs.YtbhgocpenbibgaaW.PrintLast Go.Proofs.YtbhgocpenbibgaaW.PrintMore
attribute [local go_sem] max2_int min2_int max_two min_two max_three min_three max_four min_four   -- for this text's walks alone
set_option linter.unusedVariables false
set_option linter.unusedSimpArgs false

/-! ### tree_Names: function 26 -/
mutual
def tree_Names.l0 : Nat → List ByteArray → List (List (S45)) → Int → Int → Option (List ByteArray)
  | 0, _, _, _, _ => none
  | k + 1, x3, x8, x9, x10 => if x10 < x9 then (if 0 ≤ x10 then (if x10 < (x8.length : Int) then (tree_Names.l1 k x3 x8 x9 x10 (rd_L3 x8 x10) ((rd_L3 x8 x10).length : Int) 0) else (none)) else (none)) else ((slices_Sort_string_string.f x3).bind fun t107 => ((slices_Compact_string_string.f t107).bind fun t108 => ((slices_Clone_string_string_37.f t108).bind fun t111 => (some t111))))
def tree_Names.l1 : Nat → List ByteArray → List (List (S45)) → Int → Int → List (S45) → Int → Int → Option (List ByteArray)
  | 0, _, _, _, _, _, _, _ => none
  | k + 1, x3, x8, x9, x10, x14, x15, x16 => if x16 < x15 then (if 0 ≤ x16 then (if x16 < (x14.length : Int) then (if x3.length < 8796093022208 then (tree_Names.l1 k (x3 ++ [(rd_T45 x14 x16).f0]) x8 x9 x10 x14 x15 (wrap64 (x16 + 1))) else (none)) else (none)) else (none)) else (tree_Names.l0 k x3 x8 x9 (wrap64 (x10 + 1)))
end
def tree_Names.f (k : Nat) (l0 : List (List (S45))) : Option (List ByteArray) := tree_Names.l0 k ([] : List ByteArray) l0 (l0.length : Int) 0
theorem tree_Names.mono_l : ∀ k, (∀ y0 y1 y2 y3, LeO (tree_Names.l0 k y0 y1 y2 y3) (tree_Names.l0 (k + 1) y0 y1 y2 y3)) ∧ (∀ y0 y1 y2 y3 y4 y5 y6, LeO (tree_Names.l1 k y0 y1 y2 y3 y4 y5 y6) (tree_Names.l1 (k + 1) y0 y1 y2 y3 y4 y5 y6))
  | 0 => ⟨fun _ _ _ _ r h => by simp [tree_Names.l0] at h, fun _ _ _ _ _ _ _ r h => by simp [tree_Names.l1] at h⟩
  | k + 1 => by
    obtain ⟨ih0, ih1⟩ := tree_Names.mono_l k
    refine ⟨?_, ?_⟩
    · intro y0 y1 y2 y3
      unfold tree_Names.l0
      repeat' first
      | (with_reducible exact ih0 _ _ _ _)
      | (with_reducible exact ih1 _ _ _ _ _ _ _)
      | (with_reducible exact LeO.refl _)
      | (with_reducible exact LeO.none _)
      | (with_reducible refine LeO.ite ?_ ?_)
      | (with_reducible refine LeO.bind ?_ (fun _ => ?_))
      | exact ih0 _ _ _ _
      | exact ih1 _ _ _ _ _ _ _
      | exact LeO.none _
      | refine LeO.ite ?_ ?_
      | refine LeO.bind ?_ (fun _ => ?_)
    · intro y0 y1 y2 y3 y4 y5 y6
      unfold tree_Names.l1
      repeat' first
      | (with_reducible exact ih0 _ _ _ _)
      | (with_reducible exact ih1 _ _ _ _ _ _ _)
      | (with_reducible exact LeO.refl _)
      | (with_reducible exact LeO.none _)
      | (with_reducible refine LeO.ite ?_ ?_)
      | (with_reducible refine LeO.bind ?_ (fun _ => ?_))
      | exact ih0 _ _ _ _
      | exact ih1 _ _ _ _ _ _ _
      | exact LeO.none _
      | refine LeO.ite ?_ ?_
      | refine LeO.bind ?_ (fun _ => ?_)
theorem tree_Names.mono : ∀ a0 k, LeO (tree_Names.f k a0) (tree_Names.f (k + 1) a0) := by
  intro a0 k
  obtain ⟨ih0, ih1⟩ := tree_Names.mono_l k
  unfold tree_Names.f
  repeat' first
      | (with_reducible exact ih0 _ _ _ _)
      | (with_reducible exact ih1 _ _ _ _ _ _ _)
      | (with_reducible exact LeO.refl _)
      | (with_reducible exact LeO.none _)
      | (with_reducible refine LeO.ite ?_ ?_)
      | (with_reducible refine LeO.bind ?_ (fun _ => ?_))
      | exact ih0 _ _ _ _
      | exact ih1 _ _ _ _ _ _ _
      | exact LeO.none _
      | refine LeO.ite ?_ ?_
      | refine LeO.bind ?_ (fun _ => ?_)
set_option maxHeartbeats 8000000 in
set_option maxRecDepth 100000 in
theorem tree_Names.calls (k : Nat) (A0 : Option Addr) (c0 : Nat) (l0 : List (List (S45))) (r : List ByteArray) (w : World) (hr0 : Kd.C (Kd.slice 45 k45) w A0 l0.length l0) (hc0 : l0.length ≤ c0) (h : tree_Names.f k l0 = some r) :
    Calls Try.prog 26 #[.slice A0 l0.length c0] w fun e w' => ∃ v0_ : Value, e = .returned (v0_) ∧ Kd.R Kd.string 9 w' w.heap.size (fun _ => True) v0_ r ∧ Below w.heap.size w w' := by
  have hu45 := Try.underlying45
  have HR0 := Aside0.mk hr0
  have HC0 := Aside0.mk hc0
  clear hr0 hc0
  have HB := Aside0.mk (Below.refl w.heap.size w)
  have H : (tree_Names.l0 k ([] : List ByteArray) l0 (l0.length : Int) 0) = some r := h
  clear h
  have H' := Aside0.mk H
  clear H
  go_enter Try.func26, Try.ntmps26
  go_wp2
  go_loopg [3, 10] k (fun kq v3 v10 w' => ∃ (x3_1 : List ByteArray) (x10_1 : Int), v10 = .int .i64 x10_1 ∧ Aside0 (tree_Names.l0 kq x3_1 l0 (l0.length : Int) x10_1 = some r) ∧ Aside0 (kq ≤ k) ∧ Aside0 (Kd.R Kd.string 9 w' w.heap.size (fun _ => True) v3 x3_1) ∧ Aside0 (Below w.heap.size w w'))
  case atStart => exact ⟨(([] : List ByteArray)), (0), (by first | rfl | (simp; done) | (simp [*]; done)), H', ⟨Nat.le_refl _⟩, ⟨by first | exact Kd.R_nil _ _ _ _ _ | exact Kd.N_nil _ _ _ _ _ | exact Kd.V_nil _ _ _ _ _ | exact Kd.Q_nil _ _ _ _ _ | exact Kd.S_nil _ _ _ _ _⟩, ⟨by repeat (first | (with_reducible first | exact HB.out | apply bA_ | apply bN_ | apply bD_) | exact HB.out)⟩⟩
  case round =>
    clear H'
    obtain ⟨x3_1, x10_1, rfl, HA, HK1, HO_3, HB⟩ := hrel
    cases gk with
    | zero => exact absurd HA.out (by simp [tree_Names.l0])
    | succ k1 =>
      have H := HA.out
      clear HA
      simp only [tree_Names.l0] at H
      by_cases c2 : x10_1 < (l0.length : Int)
      · rw [if_pos c2] at H
        have c2b0 : decide (x10_1 < (l0.length : Int)) = true := decide_eq_true c2
        clear c2
        by_cases c3 : 0 ≤ x10_1
        · rw [if_pos c3] at H
          have c3b0 : decide (0 ≤ x10_1) = true := decide_eq_true c3
          clear c3
          by_cases c4 : x10_1 < (l0.length : Int)
          · rw [if_pos c4] at H
            have c4b0 : decide (x10_1 < (l0.length : Int)) = true := decide_eq_true c4
            clear c4
            have H' := Aside0.mk H
            clear H
            have p114 : 0 ≤ (x10_1 : Int) := of_decide_eq_true (by first | (with_reducible assumption) | assumption)
            have q114 : x10_1 < (l0.length : Int) := of_decide_eq_true (by first | (with_reducible assumption) | assumption)
            obtain ⟨ad114, A114_0, c114_0, e114, hx114_0, hl114_0, hi114_0⟩ := at_L3 HR0.out x10_1 p114 q114
            cases e114
            replace hx114_0 := (HB.out.cell (World.block_lt_of_cell? w _ hx114_0)).trans hx114_0
            have HR114_0 := Aside0.mk hi114_0
            have HC114_0 := Aside0.mk hl114_0
            clear hi114_0 hl114_0
            replace p114 := eq_true p114
            replace q114 := eq_true q114
            go_wp2
            go_loopg [3, 16] k1 (fun kq v3 v16 w' => ∃ (x3_2 : List ByteArray) (x16_2 : Int), v16 = .int .i64 x16_2 ∧ Aside0 (tree_Names.l1 kq x3_2 l0 (l0.length : Int) x10_1 (rd_L3 l0 x10_1) ((rd_L3 l0 x10_1).length : Int) x16_2 = some r) ∧ Aside0 (kq ≤ k1) ∧ Aside0 (Kd.R Kd.string 9 w' w.heap.size (fun _ => True) v3 x3_2) ∧ Aside0 (Below w.heap.size w w'))
            case atStart => exact ⟨(x3_1), (0), (by first | rfl | (simp; done) | (simp [*]; done)), H', ⟨Nat.le_refl _⟩, ⟨by (with_reducible repeat (first | apply rA_ | apply rN_ | apply rD_)); exact HO_3.out⟩, ⟨by repeat (first | (with_reducible first | exact HB.out | apply bA_ | apply bN_ | apply bD_) | exact HB.out)⟩⟩
            case round =>
              clear H'
              try clear c1
              try clear p1
              try clear q1
              try clear hx1
              try clear c2
              try clear c2b0
              try clear p2
              try clear c3
              try clear c3b0
              try clear c4
              try clear c4b0
              try clear hx114_0
              try clear p114
              try clear q114
              obtain ⟨x3_2, x16_2, rfl, HA, HK2, HO_3, HB⟩ := hrel
              cases gk with
              | zero => exact absurd HA.out (by simp [tree_Names.l1])
              | succ k2 =>
                have H := HA.out
                clear HA
                simp only [tree_Names.l1] at H
                by_cases c5 : x16_2 < ((rd_L3 l0 x10_1).length : Int)
                · rw [if_pos c5] at H
                  have c5b0 : decide (x16_2 < ((rd_L3 l0 x10_1).length : Int)) = true := decide_eq_true c5
                  clear c5
                  by_cases c6 : 0 ≤ x16_2
                  · rw [if_pos c6] at H
                    have c6b0 : decide (0 ≤ x16_2) = true := decide_eq_true c6
                    clear c6
                    by_cases c7 : x16_2 < ((rd_L3 l0 x10_1).length : Int)
                    · rw [if_pos c7] at H
                      have c7b0 : decide (x16_2 < ((rd_L3 l0 x10_1).length : Int)) = true := decide_eq_true c7
                      clear c7
                      by_cases c8 : x3_2.length < 8796093022208
                      · rw [if_pos c8] at H
                        have LMc8 := Aside0.mk c8
                        clear c8
                        obtain ⟨y117, hy117⟩ : ∃ y_ : List ByteArray, y_ = (x3_2 ++ [(rd_T45 (rd_L3 l0 x10_1) x16_2).f0]) := ⟨_, rfl⟩
                        replace H : (tree_Names.l1 k2 y117 l0 (l0.length : Int) x10_1 (rd_L3 l0 x10_1) ((rd_L3 l0 x10_1).length : Int) (wrap64 (x16_2 + 1))) = some r := by first | (rw [hy117]; with_reducible exact H) | (have H2_ := (Option.bind_some _ _).symm.trans H; rw [hy117]; with_reducible exact H2_) | (have H2_ := (Option.bind_some _ _).symm.trans H; with_reducible exact H2_) | with_reducible exact H | (rw [hy117]; exact H) | exact H
                        have Ny117 := Aside0.mk hy117
                        clear hy117
                        have H' := Aside0.mk H
                        clear H
                        have p115 : 0 ≤ (x16_2 : Int) := of_decide_eq_true (by first | (with_reducible assumption) | assumption)
                        have q115 : x16_2 < ((rd_L3 l0 x10_1).length : Int) := of_decide_eq_true (by first | (with_reducible assumption) | assumption)
                        obtain ⟨ad115, A115_1, c115_1, e115, hx115_0, hx115_1, hl115_1, hi115_1⟩ := at_T45 HR114_0.out x16_2 p115 q115
                        cases e115
                        replace hx115_0 := (HB.out.cell (World.block_lt_of_cell? w _ hx115_0)).trans hx115_0
                        replace hx115_1 := (HB.out.cell (World.block_lt_of_cell? w _ hx115_1)).trans hx115_1
                        have HR115_1 := Aside0.mk hi115_1
                        have HC115_1 := Aside0.mk hl115_1
                        clear hi115_1 hl115_1
                        replace p115 := eq_true p115
                        replace q115 := eq_true q115
                        go_wp2_with (first | ((with_reducible refine gate_dst (N := 7) rfl ?_); refine box_event ?hg (N := 7) ?hd (cs := #[.string (⟨#[]⟩ : ByteArray), .slice none 0 0]) (t := 45) ?hr ?_; (case hd => rfl); (case hg => rfl); (case hr => first | (go_simp; done) | (go_simp; rfl)); intro gb116 hg w9 hbox hb; have n0_ := Aside0.mk (Kd.R_below (by (with_reducible repeat (first | apply rA_ | apply rN_ | apply rD_)); exact HO_3.out) hb); have n1_ := Aside0.mk (below_step (by repeat (first | (with_reducible first | exact HB.out | apply bA_ | apply bN_ | apply bD_) | exact HB.out)) hb); have n2_ := Aside0.mk (hbox); have n3_ := Aside0.mk ((by rw [hg]; exact (below_size (by repeat (first | (with_reducible first | exact HB.out | apply bA_ | apply bN_ | apply bD_) | exact HB.out))) : w.heap.size ≤ gb116)); have n4_ := Aside0.mk ((by rw [hg]; exact (below_size (by repeat (first | (with_reducible first | exact HB.out | apply bA_ | apply bN_ | apply bD_) | exact HB.out))) : w.heap.size ≤ gb116)); clear HO_3; clear HB; have HO_3 := n0_; have HB := n1_; have BK116 := n2_; have GW116 := n3_; have GE116 := n4_; clear n0_ n1_ n2_ n3_ n4_; clear hb hbox hg; have hcz10_0 : w9.cell? ⟨gb116, 0, none⟩ = some (.string (⟨#[]⟩ : ByteArray)) := (blk_cell BK116.out 0).trans rfl; have hcz10_1 : w9.cell? ⟨gb116, 1, none⟩ = some (.slice none 0 0) := (blk_cell BK116.out 1).trans rfl; have hfz10_0 := blk_frozen BK116.out 0; have hfz10_1 := blk_frozen BK116.out 1) | ((with_reducible refine gate_builtin (b := .append) (xs := #[.tmp 20, .tmp 23]) rfl ?_); at_builtin; refine Kd.R_append Kd.string (w0 := w) w.heap.size rfl (.tmp 20) (.tmp 23) 31 9 (.string ⟨#[]⟩) 16 rfl Try.underlying31 info9 rfl (by decide) (by omega) u3 x3_2 ((rd_T45 (rd_L3 l0 x10_1) x16_2).f0) [.string ((rd_T45 (rd_L3 l0 x10_1) x16_2).f0)] (fun _ => True) (fun _ => False) rfl (by first | (go_simp; done) | (go_simp; rfl)) ?aP (fun _ hk => hk.elim) ?aF ?aO ?aB ?aS ?aL ?_; (case aP => exact rfl); (case aB => exact (by repeat (first | (with_reducible first | exact HB.out | apply bA_ | apply bN_ | apply bD_ | refine below_set ?_ GE116.out) | exact HB.out))); (case aF => exact (fun _ _ => trivial)); (case aO => exact (by (with_reducible repeat (first | apply rA_ | apply rN_ | apply rD_)); exact Kd.R_mono (Kd.R_far (p := ⟨gb116, 1, none⟩) (Kd.R_far (p := ⟨gb116, 0, none⟩) (Kd.R_types HO_3.out BK116.out (by decide)) (fun _ hk => hk.2) (.string ((rd_T45 (rd_L3 l0 x10_1) x16_2).f0))) (fun _ hk => hk.2) (.slice A115_1 ((rd_T45 (rd_L3 l0 x10_1) x16_2).f1).length c115_1)) (fun _ hk => trivial))); (case aS => exact (below_size (by repeat (first | (with_reducible first | exact HB.out | apply bA_ | apply bN_ | apply bD_ | refine below_set ?_ GE116.out) | exact HB.out)))); (case aL => have := LMc8.out; omega); intro v118 w11 ho hb hg hat; rw [← Ny117.out] at ho; have n0_ := Aside0.mk (blk_grown (g := gb116) (o := .cells #[.string ((rd_T45 (rd_L3 l0 x10_1) x16_2).f0), .slice A115_1 ((rd_T45 (rd_L3 l0 x10_1) x16_2).f1).length c115_1] 45 (0, 0)) (by (with_reducible repeat (first | refine blk_drewN ?_ _ | refine blk_drew ?_ | refine blk_alloc ?_ _)); refine blk_put (cs := #[.string ((rd_T45 (rd_L3 l0 x10_1) x16_2).f0), .slice none 0 0]) ?_ 1 _ rfl; (with_reducible repeat (first | refine blk_drewN ?_ _ | refine blk_drew ?_ | refine blk_alloc ?_ _)); refine blk_put (cs := #[.string (⟨#[]⟩ : ByteArray), .slice none 0 0]) ?_ 0 _ rfl; (with_reducible repeat (first | refine blk_drewN ?_ _ | refine blk_drew ?_ | refine blk_alloc ?_ _)); exact BK116.out) hg (Kd.R_ne HO_3.out BK116.out (by decide))); have n1_ := Aside0.mk (hb); have n2_ := Aside0.mk (ho); clear BK116; clear HB; clear HO_3; have BK116 := n0_; have HB := n1_; have HO119 := n2_; clear n0_ n1_ n2_; clear ho hb hg hat))
                        go_roundg k2
                        case measure => have := HK1.out; have := HK2.out; omega
                        case rel => exact ⟨(y117), (wrap64 (x16_2 + 1)), (by first | rfl | (simp; done) | (simp [*]; done)), H', ⟨by have := HK1.out; have := HK2.out; omega⟩, ⟨by (with_reducible repeat (first | apply rA_ | apply rN_ | apply rD_)); exact HO119.out⟩, ⟨by repeat (first | (with_reducible first | exact HB.out | apply bA_ | apply bN_ | apply bD_ | refine below_set ?_ GE116.out) | exact HB.out)⟩⟩
                      · rw [if_neg c8] at H
                        exact absurd H (by simp)
                    · rw [if_neg c7] at H
                      exact absurd H (by simp)
                  · rw [if_neg c6] at H
                    exact absurd H (by simp)
                · rw [if_neg c5] at H
                  have c5b0 : decide (x16_2 < ((rd_L3 l0 x10_1).length : Int)) = false := decide_eq_false c5
                  clear c5
                  have H' := Aside0.mk H
                  clear H
                  go_wp2
                  go_roundg k2
                  case measure => have := HK1.out; have := HK2.out; omega
                  case rel => exact ⟨(x3_2), (wrap64 (x10_1 + 1)), (by first | rfl | (simp; done) | (simp [*]; done)), H', ⟨by have := HK1.out; have := HK2.out; omega⟩, ⟨by (with_reducible repeat (first | apply rA_ | apply rN_ | apply rD_)); exact HO_3.out⟩, ⟨by repeat (first | (with_reducible first | exact HB.out | apply bA_ | apply bN_ | apply bD_) | exact HB.out)⟩⟩
          · rw [if_neg c4] at H
            exact absurd H (by simp)
        · rw [if_neg c3] at H
          exact absurd H (by simp)
      · rw [if_neg c2] at H
        have c2b0 : decide (x10_1 < (l0.length : Int)) = false := decide_eq_false c2
        clear c2
        replace H := Option.bind_eq_some_iff.mp H
        obtain ⟨t107, A120, H⟩ := H
        replace H : ((slices_Compact_string_string.f t107).bind fun t108 => ((slices_Clone_string_string_37.f t108).bind fun t111 => (some t111))) = some r := H
        have A12 := Aside0.mk A120
        clear A120
        replace H := Option.bind_eq_some_iff.mp H
        obtain ⟨t108, A130, H⟩ := H
        replace H : ((slices_Clone_string_string_37.f t108).bind fun t111 => (some t111)) = some r := H
        have A13 := Aside0.mk A130
        clear A130
        replace H := Option.bind_eq_some_iff.mp H
        obtain ⟨t111, A140, H⟩ := H
        replace H : (some t111) = some r := H
        have A14 := Aside0.mk A140
        clear A140
        obtain rfl := Option.some.inj H
        obtain ⟨Ao15, co15, eo15⟩ := Kd.R_slice HO_3.out
        subst eo15
        go_wp2_with (first | ((with_reducible refine gate_callee (f := 36) rfl ?_); refine goesL_ (some 28) rfl rfl Try.func36 (by kernel_rfl) rfl #[.slice Ao15 x3_1.length co15] rfl (by (try simp only [List.map_toArray, List.map_cons, List.map_nil]); first | done | rfl | (simp only [List.length_drop, List.length_take]; rfl)) ?_; (with_reducible refine (slices_Sort_string_string.calls (fun k_ => some k_ = (.slice Ao15 x3_1.length co15 : Value).ownBlock) (.slice Ao15 x3_1.length co15) x3_1 t107 w _ ?side1 ?side2 A12.out).mono ?_); (case side1 => repeat (first | (with_reducible first | exact HB.out | apply bA_ | apply bN_ | apply bD_) | exact HB.out)); (case side2 => exact Kd.R_tight rfl HO_3.out); rintro e w16 ⟨rfl, hy0, hb, hkp⟩; refine ⟨_, rfl, ?_⟩; have n0_ := Aside0.mk (Kd.R_reok rfl hy0 (fun k_ e_ => HO_3.out.1 k_ e_)); have n1_ := Aside0.mk (hb); clear HO_3; clear HB; have HO_3 := n0_; have HB := n1_; clear n0_ n1_; (try clear hb); (try clear hkp); (try clear hy0)) | ((with_reducible refine gate_callee (f := 38) rfl ?_); refine goesL_ (some 30) rfl rfl Try.func38 (by kernel_rfl) rfl #[.slice Ao15 x3_1.length co15] rfl (by (try simp only [List.map_toArray, List.map_cons, List.map_nil]); first | done | rfl | (simp only [List.length_drop, List.length_take]; rfl)) ?_; (with_reducible refine (slices_Compact_string_string.calls (fun k_ => some k_ = (.slice Ao15 x3_1.length co15 : Value).ownBlock) (.slice Ao15 x3_1.length co15) t107 t108 w _ ?side1 ?side2 A13.out).mono ?_); (case side1 => repeat (first | (with_reducible first | exact HB.out | apply bA_ | apply bN_ | apply bD_) | exact HB.out)); (case side2 => exact Kd.R_tight rfl HO_3.out); rintro e w17 ⟨v109, rfl, ho0, hb, hkp⟩; refine ⟨_, rfl, ?_⟩; have n0_ := Aside0.mk (Kd.R_mono (ok' := fun k_ => True) ho0 (fun k_ hk_ => trivial)); have n1_ := Aside0.mk (hb); clear HB; clear HO_3; have HO110 := n0_; have HB := n1_; clear n0_ n1_; (try clear hb); (try clear hkp); (try clear ho0); obtain ⟨Ao18, co18, eo18⟩ := Kd.R_slice HO110.out; subst eo18) | ((with_reducible refine gate_callee (f := 37) rfl ?_); refine goesL_ (some 31) rfl rfl Try.func37 (by kernel_rfl) rfl #[.slice Ao18 t108.length co18] rfl (by (try simp only [List.map_toArray, List.map_cons, List.map_nil]); first | done | rfl | (simp only [List.length_drop, List.length_take]; rfl)) ?_; (with_reducible refine (slices_Clone_string_string_37.calls _ _ t108 t111 _ ?side1 ?side2 A14.out).mono ?_); (case side1 => repeat (first | exact (Kd.R_reads' HO110.out).2.2 | (with_reducible refine cA_ ?_ _) | (with_reducible refine cN_ ?_ _) | (with_reducible refine cD_ ?_))); (case side2 => exact (Kd.R_reads' HO110.out).2.1); rintro e w19 ⟨v112, rfl, ho0, hb⟩; refine ⟨_, rfl, ?_⟩; have n0_ := Aside0.mk (Kd.R_elder' (by (with_reducible repeat (first | apply rA_ | apply rN_ | apply rD_)); exact HO110.out) (Kd.R_base ho0) hb); have n1_ := Aside0.mk (Kd.R_lower (Kd.R_new' ho0 (Kd.R_lt (by (with_reducible repeat (first | apply rA_ | apply rN_ | apply rD_)); exact HO110.out))) (below_size (by repeat (first | (with_reducible first | exact HB.out | apply bA_ | apply bN_ | apply bD_) | exact HB.out)))); have n2_ := Aside0.mk (below_step (by repeat (first | (with_reducible first | exact HB.out | apply bA_ | apply bN_ | apply bD_) | exact HB.out)) hb); clear HO110; clear HB; have HO110 := n0_; have HO113 := n1_; have HB := n2_; clear n0_ n1_ n2_; (try clear hb); (try clear hb2); (try clear hk); (try clear hi); (try clear ho0)))
        go_ret
        exact ⟨_, by first | rfl | (simp [errW_none, errW_some] <;> rfl) | (simp [*, errW_none, errW_some] <;> rfl), by (with_reducible repeat (first | apply rA_ | apply rN_ | apply rD_)); exact Kd.R_mono HO113.out (fun _ hk => trivial), by repeat (first | (with_reducible first | exact HB.out | apply bA_ | apply bN_ | apply bD_) | exact HB.out)⟩

end Go.Proofs.Ytbhgocpenbibgaa.PX
-- written by wip/tools/hybrid.py (over the kit's print.py, with functions proved by hand beside it) for this claim
namespace Go.Proofs.Ytbhgocpenbibgaa.PX
open Go.RowKit Go.Proofs.YtbhgocpenbibgaaW.PrintWords Go.Proofs.YtbhgocpenbibgaaW.PrintLast Go.Proofs.YtbhgocpenbibgaaW.PrintMore
attribute [local go_sem] max2_int min2_int max_two min_two max_three min_three max_four min_four   -- for this text's walks alone
set_option linter.unusedVariables false
set_option linter.unusedSimpArgs false

/-! ### cadenceref2_Names: function 30 -/
mutual
def cadenceref2_Names.l0 : Nat → List (List (S45)) → List (S45) → Int → Option (List ByteArray)
  | 0, _, _, _ => none
  | k + 1, x0, x3, x4 => if x4 < (x0.length : Int) then (cadenceref2_Names.l1 k x0 x3 x4 0) else (cadenceref2_Names.l2 k x3 ([] : List ByteArray) 0)
def cadenceref2_Names.l1 : Nat → List (List (S45)) → List (S45) → Int → Int → Option (List ByteArray)
  | 0, _, _, _, _ => none
  | k + 1, x0, x3, x4, x5 => if 0 ≤ x4 then (if x4 < (x0.length : Int) then (if x5 < ((rd_L3 x0 x4).length : Int) then (if 0 ≤ x5 then ((cadenceref2_With.f k x3 ((rd_T45 (rd_L3 x0 x4) x5).f0) ([] : List (S45))).bind fun t303 => (cadenceref2_Names.l1 k x0 t303 x4 (wrap64 (x5 + 1)))) else (none)) else (cadenceref2_Names.l0 k x0 x3 (wrap64 (x4 + 1)))) else (none)) else (none)
def cadenceref2_Names.l2 : Nat → List (S45) → List ByteArray → Int → Option (List ByteArray)
  | 0, _, _, _ => none
  | k + 1, x3, x6, x7 => if x7 < (x3.length : Int) then (if 0 ≤ x7 then (if x6.length < 8796093022208 then (cadenceref2_Names.l2 k x3 (x6 ++ [(rd_T45 x3 x7).f0]) (wrap64 (x7 + 1))) else (none)) else (none)) else (some x6)
end
def cadenceref2_Names.f (k : Nat) (l0 : List (List (S45))) : Option (List ByteArray) := cadenceref2_Names.l0 k l0 ([] : List (S45)) 0
theorem cadenceref2_Names.mono_l : ∀ k, (∀ y0 y1 y2, LeO (cadenceref2_Names.l0 k y0 y1 y2) (cadenceref2_Names.l0 (k + 1) y0 y1 y2)) ∧ (∀ y0 y1 y2 y3, LeO (cadenceref2_Names.l1 k y0 y1 y2 y3) (cadenceref2_Names.l1 (k + 1) y0 y1 y2 y3)) ∧ (∀ y0 y1 y2, LeO (cadenceref2_Names.l2 k y0 y1 y2) (cadenceref2_Names.l2 (k + 1) y0 y1 y2))
  | 0 => ⟨fun _ _ _ r h => by simp [cadenceref2_Names.l0] at h, fun _ _ _ _ r h => by simp [cadenceref2_Names.l1] at h, fun _ _ _ r h => by simp [cadenceref2_Names.l2] at h⟩
  | k + 1 => by
    obtain ⟨ih0, ih1, ih2⟩ := cadenceref2_Names.mono_l k
    refine ⟨?_, ?_, ?_⟩
    · intro y0 y1 y2
      unfold cadenceref2_Names.l0
      repeat' first
      | (with_reducible exact ih0 _ _ _)
      | (with_reducible exact ih1 _ _ _ _)
      | (with_reducible exact ih2 _ _ _)
      | (with_reducible exact cadenceref2_With.mono _ _ _ _)
      | (with_reducible exact LeO.refl _)
      | (with_reducible exact LeO.none _)
      | (with_reducible refine LeO.ite ?_ ?_)
      | (with_reducible refine LeO.bind ?_ (fun _ => ?_))
      | exact ih0 _ _ _
      | exact ih1 _ _ _ _
      | exact ih2 _ _ _
      | exact cadenceref2_With.mono _ _ _ _
      | exact LeO.none _
      | refine LeO.ite ?_ ?_
      | refine LeO.bind ?_ (fun _ => ?_)
    · intro y0 y1 y2 y3
      unfold cadenceref2_Names.l1
      repeat' first
      | (with_reducible exact ih0 _ _ _)
      | (with_reducible exact ih1 _ _ _ _)
      | (with_reducible exact ih2 _ _ _)
      | (with_reducible exact cadenceref2_With.mono _ _ _ _)
      | (with_reducible exact LeO.refl _)
      | (with_reducible exact LeO.none _)
      | (with_reducible refine LeO.ite ?_ ?_)
      | (with_reducible refine LeO.bind ?_ (fun _ => ?_))
      | exact ih0 _ _ _
      | exact ih1 _ _ _ _
      | exact ih2 _ _ _
      | exact cadenceref2_With.mono _ _ _ _
      | exact LeO.none _
      | refine LeO.ite ?_ ?_
      | refine LeO.bind ?_ (fun _ => ?_)
    · intro y0 y1 y2
      unfold cadenceref2_Names.l2
      repeat' first
      | (with_reducible exact ih0 _ _ _)
      | (with_reducible exact ih1 _ _ _ _)
      | (with_reducible exact ih2 _ _ _)
      | (with_reducible exact cadenceref2_With.mono _ _ _ _)
      | (with_reducible exact LeO.refl _)
      | (with_reducible exact LeO.none _)
      | (with_reducible refine LeO.ite ?_ ?_)
      | (with_reducible refine LeO.bind ?_ (fun _ => ?_))
      | exact ih0 _ _ _
      | exact ih1 _ _ _ _
      | exact ih2 _ _ _
      | exact cadenceref2_With.mono _ _ _ _
      | exact LeO.none _
      | refine LeO.ite ?_ ?_
      | refine LeO.bind ?_ (fun _ => ?_)
theorem cadenceref2_Names.mono : ∀ a0 k, LeO (cadenceref2_Names.f k a0) (cadenceref2_Names.f (k + 1) a0) := by
  intro a0 k
  obtain ⟨ih0, ih1, ih2⟩ := cadenceref2_Names.mono_l k
  unfold cadenceref2_Names.f
  repeat' first
      | (with_reducible exact ih0 _ _ _)
      | (with_reducible exact ih1 _ _ _ _)
      | (with_reducible exact ih2 _ _ _)
      | (with_reducible exact cadenceref2_With.mono _ _ _ _)
      | (with_reducible exact LeO.refl _)
      | (with_reducible exact LeO.none _)
      | (with_reducible refine LeO.ite ?_ ?_)
      | (with_reducible refine LeO.bind ?_ (fun _ => ?_))
      | exact ih0 _ _ _
      | exact ih1 _ _ _ _
      | exact ih2 _ _ _
      | exact cadenceref2_With.mono _ _ _ _
      | exact LeO.none _
      | refine LeO.ite ?_ ?_
      | refine LeO.bind ?_ (fun _ => ?_)
set_option maxHeartbeats 8000000 in
set_option maxRecDepth 100000 in
theorem cadenceref2_Names.calls (k : Nat) (A0 : Option Addr) (c0 : Nat) (l0 : List (List (S45))) (r : List ByteArray) (w : World) (hr0 : Kd.C (Kd.slice 45 k45) w A0 l0.length l0) (hc0 : l0.length ≤ c0) (h : cadenceref2_Names.f k l0 = some r) :
    Calls Try.prog 30 #[.slice A0 l0.length c0] w fun e w' => ∃ v0_ : Value, e = .returned (v0_) ∧ Kd.R Kd.string 9 w' w.heap.size (fun _ => True) v0_ r ∧ Below w.heap.size w w' := by
  have HR0 := Aside0.mk hr0
  have HC0 := Aside0.mk hc0
  clear hr0 hc0
  have HB := Aside0.mk (Below.refl w.heap.size w)
  have H : (cadenceref2_Names.l0 k l0 ([] : List (S45)) 0) = some r := h
  clear h
  have H' := Aside0.mk H
  clear H
  go_enter Try.func30, Try.ntmps30
  go_wp2
  go_loopg [3, 4] k (fun kq v3 v4 w' => ∃ (x3_1 : List (S45)) (x4_1 : Int), v4 = .int .i64 x4_1 ∧ Aside0 (cadenceref2_Names.l0 kq l0 x3_1 x4_1 = some r) ∧ Aside0 (kq ≤ k) ∧ Aside0 (Kd.N k45 45 w' w.heap.size (fun _ => True) v3 x3_1) ∧ Aside0 (Below w.heap.size w w'))
  case atStart => exact ⟨(([] : List (S45))), (0), (by first | rfl | (simp; done) | (simp [*]; done)), H', ⟨Nat.le_refl _⟩, ⟨by first | exact Kd.R_nil _ _ _ _ _ | exact Kd.N_nil _ _ _ _ _ | exact Kd.V_nil _ _ _ _ _ | exact Kd.Q_nil _ _ _ _ _ | exact Kd.S_nil _ _ _ _ _⟩, ⟨by repeat (first | (with_reducible first | exact HB.out | apply bA_ | apply bN_ | apply bD_) | exact HB.out)⟩⟩
  case round =>
    clear H'
    obtain ⟨x3_1, x4_1, rfl, HA, HK1, HO_3, HB⟩ := hrel
    cases gk with
    | zero => exact absurd HA.out (by simp [cadenceref2_Names.l0])
    | succ k1 =>
      have H := HA.out
      clear HA
      simp only [cadenceref2_Names.l0] at H
      by_cases c2 : x4_1 < (l0.length : Int)
      · rw [if_pos c2] at H
        have c2b0 : decide (x4_1 < (l0.length : Int)) = true := decide_eq_true c2
        clear c2
        have H' := Aside0.mk H
        clear H
        go_wp2
        go_loopg [3, 5] k1 (fun kq v3 v5 w' => ∃ (x3_2 : List (S45)) (x5_2 : Int), v5 = .int .i64 x5_2 ∧ Aside0 (cadenceref2_Names.l1 kq l0 x3_2 x4_1 x5_2 = some r) ∧ Aside0 (kq ≤ k1) ∧ Aside0 (Kd.N k45 45 w' w.heap.size (fun _ => True) v3 x3_2) ∧ Aside0 (Below w.heap.size w w'))
        case atStart => exact ⟨(x3_1), (0), (by first | rfl | (simp; done) | (simp [*]; done)), H', ⟨Nat.le_refl _⟩, ⟨by (with_reducible repeat (first | apply nA_ | apply nN_ | apply nD_)); exact HO_3.out⟩, ⟨by repeat (first | (with_reducible first | exact HB.out | apply bA_ | apply bN_ | apply bD_) | exact HB.out)⟩⟩
        case round =>
          clear H'
          try clear c2
          try clear c2b0
          try clear p2
          obtain ⟨x3_2, x5_2, rfl, HA, HK2, HO_3, HB⟩ := hrel
          cases gk with
          | zero => exact absurd HA.out (by simp [cadenceref2_Names.l1])
          | succ k2 =>
            have H := HA.out
            clear HA
            simp only [cadenceref2_Names.l1] at H
            by_cases c3 : 0 ≤ x4_1
            · rw [if_pos c3] at H
              have c3b0 : decide (0 ≤ x4_1) = true := decide_eq_true c3
              clear c3
              by_cases c4 : x4_1 < (l0.length : Int)
              · rw [if_pos c4] at H
                have c4b0 : decide (x4_1 < (l0.length : Int)) = true := decide_eq_true c4
                clear c4
                by_cases c5 : x5_2 < ((rd_L3 l0 x4_1).length : Int)
                · rw [if_pos c5] at H
                  have c5b0 : decide (x5_2 < ((rd_L3 l0 x4_1).length : Int)) = true := decide_eq_true c5
                  clear c5
                  by_cases c6 : 0 ≤ x5_2
                  · rw [if_pos c6] at H
                    have c6b0 : decide (0 ≤ x5_2) = true := decide_eq_true c6
                    clear c6
                    replace H := Option.bind_eq_some_iff.mp H
                    obtain ⟨t303, A70, H⟩ := H
                    replace H : (cadenceref2_Names.l1 k2 l0 t303 x4_1 (wrap64 (x5_2 + 1))) = some r := H
                    have A7 := Aside0.mk A70
                    clear A70
                    have H' := Aside0.mk H
                    clear H
                    have p300 : 0 ≤ (x4_1 : Int) := of_decide_eq_true (by first | (with_reducible assumption) | assumption)
                    have q300 : x4_1 < (l0.length : Int) := of_decide_eq_true (by first | (with_reducible assumption) | assumption)
                    obtain ⟨ad300, A300_0, c300_0, e300, hx300_0, hl300_0, hi300_0⟩ := at_L3 HR0.out x4_1 p300 q300
                    cases e300
                    replace hx300_0 := (HB.out.cell (World.block_lt_of_cell? w _ hx300_0)).trans hx300_0
                    have HR300_0 := Aside0.mk hi300_0
                    have HC300_0 := Aside0.mk hl300_0
                    clear hi300_0 hl300_0
                    replace p300 := eq_true p300
                    replace q300 := eq_true q300
                    have p301 : 0 ≤ (x4_1 : Int) := of_decide_eq_true (by first | (with_reducible assumption) | assumption)
                    have q301 : x4_1 < (l0.length : Int) := of_decide_eq_true (by first | (with_reducible assumption) | assumption)
                    obtain ⟨ad301, A301_0, c301_0, e301, hx301_0, hl301_0, hi301_0⟩ := at_L3 HR0.out x4_1 p301 q301
                    obtain rfl : ad300 = ad301 := (by injection e301)
                    replace hx301_0 := (HB.out.cell (World.block_lt_of_cell? w _ hx301_0)).trans hx301_0
                    have HR301_0 := Aside0.mk hi301_0
                    have HC301_0 := Aside0.mk hl301_0
                    clear hi301_0 hl301_0
                    replace p301 := eq_true p301
                    replace q301 := eq_true q301
                    have ea_ := Option.some.inj (hx300_0.symm.trans hx301_0)
                    injection ea_ with ea_ en_ ec_
                    subst ea_
                    subst ec_
                    clear en_
                    have p302 : 0 ≤ (x5_2 : Int) := of_decide_eq_true (by first | (with_reducible assumption) | assumption)
                    have q302 : x5_2 < ((rd_L3 l0 x4_1).length : Int) := of_decide_eq_true (by first | (with_reducible assumption) | assumption)
                    obtain ⟨ad302, A302_1, c302_1, e302, hx302_0, hx302_1, hl302_1, hi302_1⟩ := at_T45 HR301_0.out x5_2 p302 q302
                    cases e302
                    replace hx302_0 := (HB.out.cell (World.block_lt_of_cell? w _ hx302_0)).trans hx302_0
                    replace hx302_1 := (HB.out.cell (World.block_lt_of_cell? w _ hx302_1)).trans hx302_1
                    have HR302_1 := Aside0.mk hi302_1
                    have HC302_1 := Aside0.mk hl302_1
                    clear hi302_1 hl302_1
                    replace p302 := eq_true p302
                    replace q302 := eq_true q302
                    obtain ⟨Ao8, co8, eo8⟩ := Kd.N_slice HO_3.out
                    subst eo8
                    go_wp2_with (first | ((with_reducible refine gate_callee (f := 24) rfl ?_); refine goesL_ (some 32) rfl rfl Try.func24 (by kernel_rfl) rfl #[.slice Ao8 x3_2.length co8, .string ((rd_T45 (rd_L3 l0 x4_1) x5_2).f0), .slice none 0 0] rfl (by (try simp only [List.map_toArray, List.map_cons, List.map_nil]); first | done | rfl | (simp only [List.length_drop, List.length_take]; rfl)) ?_; (refine (cadenceref2_With.calls k2 (fun k_ => True) _ _ x3_2 ((rd_T45 (rd_L3 l0 x4_1) x5_2).f0) (fun k_ => False) _ _ ([] : List (S45)) t303 _ ?side1 ?side2 A7.out).mono ?_); (case side1 => exact Kd.N_V (HO_3.out)); (case side2 => exact Kd.V_nil _ _ _ _ _); rintro e w9 ⟨v304, rfl, ho0, hb⟩; refine ⟨_, rfl, ?_⟩; have n0_ := Aside0.mk (Kd.N_elder' (by (with_reducible repeat (first | apply nA_ | apply nN_ | apply nD_)); exact HO_3.out) (Kd.N_base ho0) hb); have n1_ := Aside0.mk (Kd.N_lower (Kd.N_mono (ok' := fun k_ => True) ho0 (fun k_ hk_ => trivial)) (below_size (by repeat (first | (with_reducible first | exact HB.out | apply bA_ | apply bN_ | apply bD_) | exact HB.out)))); have n2_ := Aside0.mk (below_step (by repeat (first | (with_reducible first | exact HB.out | apply bA_ | apply bN_ | apply bD_) | exact HB.out)) hb); clear HO_3; clear HB; have HO_3 := n0_; have HO305 := n1_; have HB := n2_; clear n0_ n1_ n2_; (try clear hb); (try clear hb2); (try clear hk); (try clear hi); (try clear ho0)))
                    go_roundg k2
                    case measure => have := HK1.out; have := HK2.out; omega
                    case rel => exact ⟨(t303), (wrap64 (x5_2 + 1)), (by first | rfl | (simp; done) | (simp [*]; done)), H', ⟨by have := HK1.out; have := HK2.out; omega⟩, ⟨by (with_reducible repeat (first | apply nA_ | apply nN_ | apply nD_)); exact HO305.out⟩, ⟨by repeat (first | (with_reducible first | exact HB.out | apply bA_ | apply bN_ | apply bD_) | exact HB.out)⟩⟩
                  · rw [if_neg c6] at H
                    exact absurd H (by simp)
                · rw [if_neg c5] at H
                  have c5b0 : decide (x5_2 < ((rd_L3 l0 x4_1).length : Int)) = false := decide_eq_false c5
                  clear c5
                  have H' := Aside0.mk H
                  clear H
                  have p300 : 0 ≤ (x4_1 : Int) := of_decide_eq_true (by first | (with_reducible assumption) | assumption)
                  have q300 : x4_1 < (l0.length : Int) := of_decide_eq_true (by first | (with_reducible assumption) | assumption)
                  obtain ⟨ad300, A300_0, c300_0, e300, hx300_0, hl300_0, hi300_0⟩ := at_L3 HR0.out x4_1 p300 q300
                  cases e300
                  replace hx300_0 := (HB.out.cell (World.block_lt_of_cell? w _ hx300_0)).trans hx300_0
                  have HR300_0 := Aside0.mk hi300_0
                  have HC300_0 := Aside0.mk hl300_0
                  clear hi300_0 hl300_0
                  replace p300 := eq_true p300
                  replace q300 := eq_true q300
                  go_wp2
                  go_roundg k2
                  case measure => have := HK1.out; have := HK2.out; omega
                  case rel => exact ⟨(x3_2), (wrap64 (x4_1 + 1)), (by first | rfl | (simp; done) | (simp [*]; done)), H', ⟨by have := HK1.out; have := HK2.out; omega⟩, ⟨by (with_reducible repeat (first | apply nA_ | apply nN_ | apply nD_)); exact HO_3.out⟩, ⟨by repeat (first | (with_reducible first | exact HB.out | apply bA_ | apply bN_ | apply bD_) | exact HB.out)⟩⟩
              · rw [if_neg c4] at H
                exact absurd H (by simp)
            · rw [if_neg c3] at H
              exact absurd H (by simp)
      · rw [if_neg c2] at H
        have c2b0 : decide (x4_1 < (l0.length : Int)) = false := decide_eq_false c2
        clear c2
        have H' := Aside0.mk H
        clear H
        go_wp2
        go_loopg [6, 7] k1 (fun kq v6 v7 w' => ∃ (x6_2 : List ByteArray) (x7_2 : Int), v7 = .int .i64 x7_2 ∧ Aside0 (cadenceref2_Names.l2 kq x3_1 x6_2 x7_2 = some r) ∧ Aside0 (kq ≤ k1) ∧ Aside0 (Kd.N k45 45 w' w.heap.size (fun k_ => some k_ ≠ (v6 : Value).ownBlock) u3 x3_1) ∧ Aside0 (Kd.R Kd.string 9 w' w.heap.size (fun _ => True) v6 x6_2) ∧ Aside0 (Below w.heap.size w w'))
        case atStart => exact ⟨(([] : List ByteArray)), (0), (by first | rfl | (simp; done) | (simp [*]; done)), H', ⟨Nat.le_refl _⟩, ⟨by (with_reducible repeat (first | apply nA_ | apply nN_ | apply nD_)); exact Kd.N_mono HO_3.out (fun _ hk => (by simp [Value.ownBlock]))⟩, ⟨by first | exact Kd.R_nil _ _ _ _ _ | exact Kd.N_nil _ _ _ _ _ | exact Kd.V_nil _ _ _ _ _ | exact Kd.Q_nil _ _ _ _ _ | exact Kd.S_nil _ _ _ _ _⟩, ⟨by repeat (first | (with_reducible first | exact HB.out | apply bA_ | apply bN_ | apply bD_) | exact HB.out)⟩⟩
        case round =>
          clear H'
          try clear c2
          try clear c2b0
          try clear p2
          try clear c3
          try clear c3b0
          try clear p3
          try clear q3
          try clear hx3
          try clear c4
          try clear c4b0
          try clear c5
          try clear c5b0
          try clear c6
          try clear c6b0
          try clear p6
          try clear hx300_0
          try clear hx301_0
          try clear hx302_0
          try clear hx302_1
          try clear p2
          try clear p300
          try clear p301
          try clear p302
          try clear q300
          try clear q301
          try clear q302
          obtain ⟨x6_2, x7_2, rfl, HA, HK2, HO_3, HO_6, HB⟩ := hrel
          cases gk with
          | zero => exact absurd HA.out (by simp [cadenceref2_Names.l2])
          | succ k2 =>
            have H := HA.out
            clear HA
            simp only [cadenceref2_Names.l2] at H
            by_cases c10 : x7_2 < (x3_1.length : Int)
            · rw [if_pos c10] at H
              have c10b0 : decide (x7_2 < (x3_1.length : Int)) = true := decide_eq_true c10
              clear c10
              by_cases c11 : 0 ≤ x7_2
              · rw [if_pos c11] at H
                have c11b0 : decide (0 ≤ x7_2) = true := decide_eq_true c11
                clear c11
                by_cases c12 : x6_2.length < 8796093022208
                · rw [if_pos c12] at H
                  have LMc12 := Aside0.mk c12
                  clear c12
                  obtain ⟨y307, hy307⟩ : ∃ y_ : List ByteArray, y_ = (x6_2 ++ [(rd_T45 x3_1 x7_2).f0]) := ⟨_, rfl⟩
                  replace H : (cadenceref2_Names.l2 k2 x3_1 y307 (wrap64 (x7_2 + 1))) = some r := by first | (rw [hy307]; with_reducible exact H) | (have H2_ := (Option.bind_some _ _).symm.trans H; rw [hy307]; with_reducible exact H2_) | (have H2_ := (Option.bind_some _ _).symm.trans H; with_reducible exact H2_) | with_reducible exact H | (rw [hy307]; exact H) | exact H
                  have Ny307 := Aside0.mk hy307
                  clear hy307
                  have H' := Aside0.mk H
                  clear H
                  obtain ⟨Ao13, co13, eo13⟩ := Kd.N_slice HO_3.out
                  subst eo13
                  have p306 : 0 ≤ (x7_2 : Int) := of_decide_eq_true (by first | (with_reducible assumption) | assumption)
                  have q306 : x7_2 < (x3_1.length : Int) := of_decide_eq_true (by first | (with_reducible assumption) | assumption)
                  obtain ⟨ad306, A306_1, c306_1, e306, hx306_0, hx306_1, hl306_1, hi306_1⟩ := at_T45 (Kd.N_reads' HO_3.out).2.2 x7_2 p306 q306
                  cases e306
                  obtain ⟨ce306, hce306, hMe306, hcc306⟩ := Kd.N_get HO_3.out z45 x7_2 p306 (by first | exact q306 | exact of_decide_eq_true (by first | (with_reducible assumption) | assumption) | (have e_ := (Kd.N_reads' HO_3.out).1; omega))
                  obtain ⟨ua306_1, uc306_1, rfl, ul306_1, ge306_1⟩ := k45_openF hMe306
                  have hv306_1 := hcc306 1 _ rfl
                  rw [add_field _ _ 1 (by omega)] at hv306_1
                  replace hv306_1 := Option.some.inj (hv306_1.symm.trans hx306_1)
                  injection hv306_1 with hva_ hvn_ hvc_
                  rw [hva_] at ge306_1
                  rw [hvc_] at ul306_1
                  have HL306_1 := Aside0.mk (show Kd.V k45 45 _ w.heap.size _ _ ((rd_T45 x3_1 x7_2).f1) from Kd.V_mk ul306_1 ge306_1)
                  clear hva_ hvn_ hvc_ ge306_1 ul306_1
                  clear hcc306 hce306
                  have HR306_1 := Aside0.mk hi306_1
                  have HC306_1 := Aside0.mk hl306_1
                  clear hi306_1 hl306_1
                  replace p306 := eq_true p306
                  replace q306 := eq_true q306
                  go_wp2_with (first | ((with_reducible refine gate_builtin (b := .append) (xs := #[.tmp 39, .tmp 45]) rfl ?_); at_builtin; refine Kd.R_append Kd.string (w0 := w) w.heap.size rfl (.tmp 39) (.tmp 45) 31 9 (.string ⟨#[]⟩) 16 rfl Try.underlying31 info9 rfl (by decide) (by omega) u6 x6_2 ((rd_T45 x3_1 x7_2).f0) [.string ((rd_T45 x3_1 x7_2).f0)] (fun _ => True) (fun _ => False) rfl rfl ?aP (fun _ hk => hk.elim) ?aF ?aO ?aB ?aS ?aL ?_; (case aP => exact rfl); (case aB => exact (by repeat (first | (with_reducible first | exact HB.out | apply bA_ | apply bN_ | apply bD_) | exact HB.out))); (case aF => exact (fun _ _ => trivial)); (case aO => exact (by (with_reducible repeat (first | apply rA_ | apply rN_ | apply rD_)); exact HO_6.out)); (case aS => exact (below_size (by repeat (first | (with_reducible first | exact HB.out | apply bA_ | apply bN_ | apply bD_) | exact HB.out)))); (case aL => have := LMc12.out; omega); intro v308 w14 ho hb hg hat; rw [← Ny307.out] at ho; have n0_ := Aside0.mk (Kd.N_afterv (ok := (fun _ => True)) (by (with_reducible repeat (first | apply nA_ | apply nN_ | apply nD_)); exact Kd.N_mono HO_3.out (fun _ hk => ⟨trivial, hk⟩)) hg hat); have n1_ := Aside0.mk (Kd.V_afterv (ok := (fun k_ => some k_ ≠ (.slice (some ad306) x3_1.length co13 : Value).ownBlock)) (by (with_reducible repeat (first | apply vA_ | apply vN_ | apply vD_)); exact Kd.V_mono HL306_1.out (fun _ hk => ⟨hk.2, hk.1⟩)) hg hat); have n2_ := Aside0.mk (hb); have n3_ := Aside0.mk (ho); clear HO_3; clear HL306_1; clear HB; clear HO_6; have HO_3 := n0_; have HL306_1 := n1_; have HB := n2_; have HO309 := n3_; clear n0_ n1_ n2_ n3_; clear ho hb hg hat))
                  go_roundg k2
                  case measure => have := HK1.out; have := HK2.out; omega
                  case rel => exact ⟨(y307), (wrap64 (x7_2 + 1)), (by first | rfl | (simp; done) | (simp [*]; done)), H', ⟨by have := HK1.out; have := HK2.out; omega⟩, ⟨by (with_reducible repeat (first | apply nA_ | apply nN_ | apply nD_)); exact Kd.N_mono HO_3.out (fun _ hk => hk.2)⟩, ⟨by (with_reducible repeat (first | apply rA_ | apply rN_ | apply rD_)); exact HO309.out⟩, ⟨by repeat (first | (with_reducible first | exact HB.out | apply bA_ | apply bN_ | apply bD_) | exact HB.out)⟩⟩
                · rw [if_neg c12] at H
                  exact absurd H (by simp)
              · rw [if_neg c11] at H
                exact absurd H (by simp)
            · rw [if_neg c10] at H
              have c10b0 : decide (x7_2 < (x3_1.length : Int)) = false := decide_eq_false c10
              clear c10
              obtain rfl := Option.some.inj H
              obtain ⟨Ao15, co15, eo15⟩ := Kd.N_slice HO_3.out
              subst eo15
              go_wp2
              go_ret
              exact ⟨_, by first | rfl | (simp [errW_none, errW_some] <;> rfl) | (simp [*, errW_none, errW_some] <;> rfl), by (with_reducible repeat (first | apply rA_ | apply rN_ | apply rD_)); exact HO_6.out, by repeat (first | (with_reducible first | exact HB.out | apply bA_ | apply bN_ | apply bD_) | exact HB.out)⟩

end Go.Proofs.Ytbhgocpenbibgaa.PX
/- Trees of one's own, names of trees: tree.own, tree.Names, the reference's Names. -/
set_option linter.unusedVariables false
namespace Go.Proofs.Ytbhgocpenbibgaa.PX
open Go.RowKit Go.Proofs.YtbhgocpenbibgaaW.PrintWords Go.Proofs.YtbhgocpenbibgaaW.PrintLast Go.Proofs.YtbhgocpenbibgaaW.PrintMore Go.Proofs.Ytbhgocpenbibgaa
theorem own_ev {W : Nat} (hW : W ≤ 1000000) : ∀ {d : Nat} {t : Tr}, Ok W d t → Ev (fun k => tree_own.f k t) t := by
  intro d
  induction d with
  | zero =>
    intro t ht
    rw [show t = [] from ht]
    refine Ev.step (f := fun k => tree_own.l0 k [] [] 0 0) (fun k => by simp only [tree_own.f]; rfl) (Ev.step (f := fun _ => some []) (fun k => by simp only [tree_own.l0]; rw [if_neg (by omega)]) (Ev.now _))
  | succ d ih =>
    intro t ht
    have hl := ht.length
    have loop : ∀ (m i : Nat) (x : Tr), i + m = t.length → x.length = t.length → (∀ j, j < i → x[j]? = t[j]?) → Ev (fun k => tree_own.l0 k x t (t.length : Int) (i : Int)) t := by
      intro m
      induction m with
      | zero =>
        intro i x hi hx hj
        have hxt : x = t := by
          refine List.ext_getElem? fun j => ?_
          rcases Nat.lt_or_ge j i with h | h
          · exact hj j h
          · rw [List.getElem?_eq_none (by omega), List.getElem?_eq_none (by omega)]
        subst hxt
        exact Ev.step (f := fun _ => some x) (fun k => by simp only [tree_own.l0]; rw [if_neg (by omega)]) (Ev.now _)
      | succ m ihm =>
        intro i x hi hx hj
        have hil : i < t.length := by omega
        have e : ∀ k, tree_own.l0 (k + 1) x t (t.length : Int) (i : Int) = (tree_own.f k t[i].f1).bind fun q => tree_own.l0 k (x.set i ⟨t[i].f0, q⟩) t (t.length : Int) ((i + 1 : Nat) : Int) := fun k => by
          simp only [tree_own.l0]
          rw [if_pos (by omega), if_pos (by omega), if_pos (by omega), rdT_nat hil, wrap_succ (by omega)]
          congr 1
          funext q
          rw [if_pos (by omega), Int.toNat_natCast]
        refine Ev.step e (Ev.bind (ih (ht.2.2 _ (List.getElem_mem hil))) (ihm (i + 1) _ (by omega) (by simpa using hx) fun j hji => ?_))
        rw [List.getElem?_set]
        split
        · rename_i hij
          subst hij
          rw [if_pos (by omega), List.getElem?_eq_getElem hil]
          cases t[i]; rfl
        · exact hj j (by omega)
    refine Ev.step (f := fun k => tree_own.l0 k (List.replicate t.length z45) t (t.length : Int) 0) (fun k => ?_) (loop t.length 0 _ (by omega) (by simp) (fun j h => absurd h (Nat.not_lt_zero _)))
    simp only [tree_own.f]
    rw [if_pos (by omega), if_pos (by omega)]
    rfl
/-! ### Names -/
def nms (t : Tr) : List Str := t.map fun x => tl x.f0
def namesOf (ts : List Tr) : List ByteArray := (ofL (ts.flatMap nms)).map ba
theorem rdL_t {xs : List Tr} {i : Nat} (h : i < xs.length) : rd_L3 xs (i : Int) = xs[i] := by
  simp [rd_L3, List.getD_eq_getElem?_getD, h]
theorem namesOf_length (ts : List Tr) : (namesOf ts).length ≤ (ts.flatMap nms).length := by
  unfold namesOf
  rw [List.length_map]
  exact ofL_length_le _
theorem treeNames_ev (ts : List Tr) (hn : ts.length ≤ 1000) (hs : (ts.flatMap nms).length ≤ 1000000) : Ev (fun k => tree_Names.f k ts) (namesOf ts) := by
  have take_le : ∀ i, ((ts.take i).flatMap nms).length ≤ (ts.flatMap nms).length := by
    intro i
    have : ts.flatMap nms = (ts.take i).flatMap nms ++ (ts.drop i).flatMap nms := by rw [← List.flatMap_append, List.take_append_drop]
    rw [this, List.length_append]
    omega
  have next : ∀ i (h : i < ts.length), (ts.take (i + 1)).flatMap nms = (ts.take i).flatMap nms ++ nms ts[i] := by
    intro i h
    rw [List.take_succ_eq_append_getElem h, List.flatMap_append]
    simp
  have fin : ∀ i, ts.length ≤ i → ∀ k, tree_Names.l0 (k + 1) (((ts.take i).flatMap nms).map ba) ts (ts.length : Int) (i : Int) = some (namesOf ts) := by
    intro i hi k
    rw [List.take_of_length_le hi]
    have h1 : slices_Sort_string_string.f ((ts.flatMap nms).map ba) = some (((ts.flatMap nms).mergeSort fun x y => decide (x ≤ y)).map ba) := by
      unfold slices_Sort_string_string.f
      rw [if_pos (by rw [List.length_map]; omega)]
      unfold sortB
      rw [map_tl_ba]
    have h2 : slices_Compact_string_string.f (((ts.flatMap nms).mergeSort fun x y => decide (x ≤ y)).map ba) = some (namesOf ts) := by
      unfold slices_Compact_string_string.f
      rw [if_pos (by rw [List.length_map, List.length_mergeSort]; omega)]
      unfold compactB namesOf ofL
      rw [map_tl_ba]
    have h3 : slices_Clone_string_string_37.f (namesOf ts) = some (namesOf ts) := by
      have := namesOf_length ts
      unfold slices_Clone_string_string_37.f
      rw [Option.bind_some, List.length_nil, if_pos (by omega), List.nil_append]
    simp only [tree_Names.l0]
    rw [if_neg (by omega), h1, Option.bind_some, h2, Option.bind_some, h3, Option.bind_some]
  have inner : ∀ i (hi : i < ts.length), Ev (fun k => tree_Names.l0 k (((ts.take (i + 1)).flatMap nms).map ba) ts (ts.length : Int) ((i + 1 : Nat) : Int)) (namesOf ts) →
      ∀ (m j : Nat), j + m = ts[i].length → Ev (fun k => tree_Names.l1 k (((ts.take i).flatMap nms ++ (nms ts[i]).take j).map ba) ts (ts.length : Int) (i : Int) ts[i] (ts[i].length : Int) (j : Int)) (namesOf ts) := by
    intro i hi h0 m
    have hnl : (nms ts[i]).length = ts[i].length := by simp [nms]
    have hle := take_le (i + 1)
    rw [next i hi, List.length_append] at hle
    induction m with
    | zero =>
      intro j hj
      have e : ∀ k, tree_Names.l1 (k + 1) (((ts.take i).flatMap nms ++ (nms ts[i]).take j).map ba) ts (ts.length : Int) (i : Int) ts[i] (ts[i].length : Int) (j : Int) = tree_Names.l0 k (((ts.take (i + 1)).flatMap nms).map ba) ts (ts.length : Int) ((i + 1 : Nat) : Int) := fun k => by
        simp only [tree_Names.l1]
        rw [if_neg (by omega), wrap_succ (by omega), List.take_of_length_le (l := nms ts[i]) (by omega), next i hi]
      exact Ev.step e h0
    | succ m ihm =>
      intro j hj
      have hjl : j < ts[i].length := by omega
      have e : ∀ k, tree_Names.l1 (k + 1) (((ts.take i).flatMap nms ++ (nms ts[i]).take j).map ba) ts (ts.length : Int) (i : Int) ts[i] (ts[i].length : Int) (j : Int) = tree_Names.l1 k (((ts.take i).flatMap nms ++ (nms ts[i]).take (j + 1)).map ba) ts (ts.length : Int) (i : Int) ts[i] (ts[i].length : Int) ((j + 1 : Nat) : Int) := fun k => by
        simp only [tree_Names.l1]
        rw [if_pos (by omega), if_pos (by omega), if_pos (by omega), if_pos (by rw [List.length_map, List.length_append, List.length_take]; omega), rdT_nat hjl, wrap_succ (by omega)]
        congr 1
        rw [List.take_succ_eq_append_getElem (by omega), ← List.append_assoc, List.map_append, List.map_append]
        simp [nms, ba_tl]
      exact Ev.step e (ihm (j + 1) (by omega))
  have outer : ∀ (m i : Nat), i + m = ts.length → Ev (fun k => tree_Names.l0 k (((ts.take i).flatMap nms).map ba) ts (ts.length : Int) (i : Int)) (namesOf ts) := by
    intro m
    induction m with
    | zero => intro i hi; exact Ev.step (f := fun _ => some (namesOf ts)) (fun k => fin i (by omega) k) (Ev.now _)
    | succ m ihm =>
      intro i hi
      have hil : i < ts.length := by omega
      have h1 := inner i hil (ihm (i + 1) (by omega)) ts[i].length 0 (by omega)
      rw [List.take_zero, List.append_nil] at h1
      have e : ∀ k, tree_Names.l0 (k + 1) (((ts.take i).flatMap nms).map ba) ts (ts.length : Int) (i : Int) = tree_Names.l1 k (((ts.take i).flatMap nms).map ba) ts (ts.length : Int) (i : Int) ts[i] (ts[i].length : Int) ((0 : Nat) : Int) := fun k => by
        simp only [tree_Names.l0]
        rw [if_pos (by omega), if_pos (by omega), if_pos (by omega), rdL_t hil]
        rfl
      exact Ev.step e h1
  exact outer ts.length 0 (by omega)
theorem mem_nms_withT : ∀ {t : Tr} {n : ByteArray} {x : Tr} {s : Str}, s ∈ nms (withT t n x) ↔ s = tl n ∨ s ∈ nms t
  | [], n, x, s => by simp [withT, nms]
  | y :: t, n, x, s => by
    have ih := @mem_nms_withT t n x s
    unfold withT
    split
    · simp only [nms, List.map_cons, List.mem_cons] at ih ⊢
      rw [ih]
      constructor
      · rintro (h | h | h)
        · exact .inr (.inl h)
        · exact .inl h
        · exact .inr (.inr h)
      · rintro (h | h | h)
        · exact .inr (.inl h)
        · exact .inl h
        · exact .inr (.inr h)
    · split
      · rename_i hn
        simp [nms, hn]
      · simp [nms]
theorem refNames_ev (ts : List Tr) (hn : ts.length ≤ 1000) (hs : (ts.flatMap nms).length ≤ 1000000) : Ev (fun k => cadenceref2_Names.f k ts) (namesOf ts) := by
  have l2 : ∀ a : Tr, a.length ≤ 1000000 → ∀ (m i : Nat), i + m = a.length → Ev (fun k => cadenceref2_Names.l2 k a ((a.take i).map (·.f0)) (i : Int)) (a.map (·.f0)) := by
    intro a ha m
    induction m with
    | zero =>
      intro i hi
      exact Ev.step (f := fun _ => some (a.map (·.f0))) (fun k => by simp only [cadenceref2_Names.l2]; rw [if_neg (by omega), List.take_of_length_le (by omega)]) (Ev.now _)
    | succ m ih =>
      intro i hi
      have hil : i < a.length := by omega
      have e : ∀ k, cadenceref2_Names.l2 (k + 1) a ((a.take i).map (·.f0)) (i : Int) = cadenceref2_Names.l2 k a ((a.take (i + 1)).map (·.f0)) ((i + 1 : Nat) : Int) := fun k => by
        simp only [cadenceref2_Names.l2]
        rw [if_pos (by omega), if_pos (by omega), if_pos (by rw [List.length_map, List.length_take]; omega), rdT_nat hil, wrap_succ (by omega), List.take_succ_eq_append_getElem hil, List.map_append]
        rfl
      exact Ev.step e (ih (i + 1) (by omega))
  have take_le : ∀ i, ((ts.take i).flatMap nms).length ≤ (ts.flatMap nms).length := by
    intro i
    have : ts.flatMap nms = (ts.take i).flatMap nms ++ (ts.drop i).flatMap nms := by rw [← List.flatMap_append, List.take_append_drop]
    rw [this, List.length_append]
    omega
  have next : ∀ i (h : i < ts.length), (ts.take (i + 1)).flatMap nms = (ts.take i).flatMap nms ++ nms ts[i] := by
    intro i h
    rw [List.take_succ_eq_append_getElem h, List.flatMap_append]
    simp
  have fin : ∀ a : Tr, Sorted a → (∀ s, s ∈ nms a ↔ s ∈ ts.flatMap nms) → a.map (·.f0) = namesOf ts := by
    intro a ha hm
    have h1 : nms a = ofL (ts.flatMap nms) := by
      refine ofL_ext ?_ hm
      exact List.pairwise_map.2 ha
    unfold namesOf
    rw [← h1]
    simp [nms, ba_tl]
  have inner : ∀ i (hi : i < ts.length), (∀ a : Tr, Sorted a → a.length ≤ ((ts.take (i + 1)).flatMap nms).length → (∀ s, s ∈ nms a ↔ s ∈ (ts.take (i + 1)).flatMap nms) → Ev (fun k => cadenceref2_Names.l0 k ts a ((i + 1 : Nat) : Int)) (namesOf ts)) →
      ∀ (m j : Nat) (a : Tr), j + m = ts[i].length → Sorted a → a.length ≤ ((ts.take i).flatMap nms).length + j → (∀ s, s ∈ nms a ↔ s ∈ (ts.take i).flatMap nms ++ (nms ts[i]).take j) → Ev (fun k => cadenceref2_Names.l1 k ts a (i : Int) (j : Int)) (namesOf ts) := by
    intro i hi h0 m
    have hnl : (nms ts[i]).length = ts[i].length := by simp [nms]
    have hle := take_le (i + 1)
    have hnx := next i hi
    rw [hnx, List.length_append] at hle
    induction m with
    | zero =>
      intro j a hj ha hal hm
      have e : ∀ k, cadenceref2_Names.l1 (k + 1) ts a (i : Int) (j : Int) = cadenceref2_Names.l0 k ts a ((i + 1 : Nat) : Int) := fun k => by
        simp only [cadenceref2_Names.l1]
        rw [if_pos (by omega), if_pos (by omega), rdL_t hi, if_neg (by omega), wrap_succ (by omega)]
      refine Ev.step e (h0 a ha (by rw [hnx, List.length_append]; omega) fun s => ?_)
      rw [hm s, hnx, List.take_of_length_le (l := nms ts[i]) (by omega)]
    | succ m ihm =>
      intro j a hj ha hal hm
      have hjl : j < ts[i].length := by omega
      have e : ∀ k, cadenceref2_Names.l1 (k + 1) ts a (i : Int) (j : Int) = (cadenceref2_With.f k a ts[i][j].f0 []).bind fun t => cadenceref2_Names.l1 k ts t (i : Int) ((j + 1 : Nat) : Int) := fun k => by
        simp only [cadenceref2_Names.l1]
        rw [if_pos (by omega), if_pos (by omega), rdL_t hi, if_pos (by omega), if_pos (by omega), rdT_nat hjl, wrap_succ (by omega)]
      refine Ev.step e (Ev.bind (with_ev a _ [] (by omega)) (ihm (j + 1) _ (by omega) (sorted_withT ha) (by have := withT_length a ts[i][j].f0 []; omega) fun s => ?_))
      rw [mem_nms_withT, hm s, List.take_succ_eq_append_getElem (by omega), ← List.append_assoc, List.mem_append (t := [_]), List.mem_singleton]
      simp only [nms, List.getElem_map]
      exact Or.comm
  have outer : ∀ (m i : Nat) (a : Tr), i + m = ts.length → Sorted a → a.length ≤ ((ts.take i).flatMap nms).length → (∀ s, s ∈ nms a ↔ s ∈ (ts.take i).flatMap nms) → Ev (fun k => cadenceref2_Names.l0 k ts a (i : Int)) (namesOf ts) := by
    intro m
    induction m with
    | zero =>
      intro i a hi ha hal hm
      have hle := take_le i
      have h1 := l2 a (by omega) a.length 0 (by omega)
      have e : ∀ k, cadenceref2_Names.l0 (k + 1) ts a (i : Int) = cadenceref2_Names.l2 k a [] 0 := fun k => by
        simp only [cadenceref2_Names.l0]
        rw [if_neg (by omega)]
      rw [List.take_of_length_le (by omega)] at hm
      rw [fin a ha hm] at h1
      exact Ev.step e h1
    | succ m ihm =>
      intro i a hi ha hal hm
      have hil : i < ts.length := by omega
      have e : ∀ k, cadenceref2_Names.l0 (k + 1) ts a (i : Int) = cadenceref2_Names.l1 k ts a (i : Int) ((0 : Nat) : Int) := fun k => by
        simp only [cadenceref2_Names.l0]
        rw [if_pos (by omega)]
        rfl
      exact Ev.step e (inner i hil (fun a ha hal hm => ihm (i + 1) a (by omega) ha hal hm) ts[i].length 0 a (by omega) ha (by omega) (by simpa using hm))
  exact outer ts.length 0 [] (by omega) List.Pairwise.nil (by simp) (by simp [nms])
end Go.Proofs.Ytbhgocpenbibgaa.PX
