/- Texts on the way to 'SchemaKnown', one behind the other (part 1). -/
import Derived.Test.YtoihiehoolehiaaProg
import Derived.Below
import Derived.Deep.Draws
import Derived.Deep.AppendLies
import Derived.Maps.AppendAt
import Derived.OwnWalk
import Derived.Laws.BytesArg
import Derived.Laws.MakeOwn
import Derived.Laws.OwnMore
import Derived.Deep.OwnRows
import Derived.Tactics
import Derived.Lib.ConvBytes
import Derived.Laws.Slices
import Derived.WalkKit
import Derived.KernelRfl
import Derived.RowKit3
import Derived.Deep.LoopGhost
import Derived.Deep.QuietTactic
import Derived.BigQuiet
import Derived.WideLaws
import Derived.Deep.DeepCutAuto
import Derived.Deep.CutBlock
import Derived.Deep.RegionHeld3
import Derived.Laws.Rows
import Derived.Lib.AppendStr
import Derived.ArgAppend
import Derived.Laws.IdiomCopy
import Derived.OrdersHeld
import Derived.Laws.BitsLemmas
import Derived.RowKit
import Derived.Lib.SliceRun
import Derived.Test.YtoihiehoolehiaaMSchemaKnownWWords
import Derived.Test.YtoihiehoolehiaaMSchemaKnownWLast
import Derived.Test.YtoihiehoolehiaaMSchemaKnownWTab
import Derived.Test.YtoihiehoolehiaaMSchemaKnownWQPut
import Derived.Test.YtoihiehoolehiaaMSchemaKnownWApart
import Derived.Test.YtoihiehoolehiaaMSchemaKnownWArr
import Derived.Test.YtoihiehoolehiaaMSchemaKnownWZeros
import Derived.Test.YtoihiehoolehiaaMSchemaKnownWFoot
import Derived.Test.YtoihiehoolehiaaMSchemaKnownWKept
import Derived.Test.YtoihiehoolehiaaMSchemaKnownWShare
import Derived.Test.YtoihiehoolehiaaMSchemaKnownWN
import Derived.Test.YtoihiehoolehiaaMSchemaKnownWRepsOne
import Derived.Test.YtoihiehoolehiaaMSchemaKnownWGuard
import Derived.Test.YtoihiehoolehiaaMSchemaKnownWNEv
import Derived.Test.YtoihiehoolehiaaMSchemaKnownWMore
import Derived.Sort.Walk0
import Derived.Shelf.Abstract
import Derived.Laws.EntriesVeiled
import Derived.Lib.SlicesCompact
import Derived.Lib.RowBridge
import Derived.Lib.Hide
import Derived.Laws.CopyOwn
import Derived.Test.YtoihiehoolehiaaShelf
import Derived.Sort.OwnSorted
import Derived.Sort.Grow
import Derived.Lib.OwnBridge
import Derived.Handy
namespace Go.Proofs.Ytoihiehoolehiaa.PX
open Go.RowKit Go.Proofs.YtoihiehoolehiaaW.PrintWords Go.Proofs.YtoihiehoolehiaaW.PrintLast Go.Proofs.YtoihiehoolehiaaW.PrintMore
attribute [local go_sem] max2_int min2_int max_two min_two max_three min_three max_four min_four   
set_option linter.unusedVariables false
set_option linter.unusedSimpArgs false
def errW : Option Int → Value
  | none => .nilIface
  | some c => .iface 0 (.int .i64 c)
theorem errW_none : errW none = .nilIface := rfl
theorem errW_some (c : Int) : errW (some c) = .iface 0 (.int .i64 c) := rfl
theorem info9 : (Try.prog.info? 9).map (fun i => (i.zero, i.size, i.bytes)) = some (some (.string ⟨#[]⟩), 1, 16) := by kernel_rfl
theorem info40 : (Try.prog.info? 40).map (fun i => (i.zero, i.size, i.bytes)) = some (some (.agg #[(.bool false), (.slice none 0 0), (.int .i64 0), (.bool false)]), 4, 48) := by kernel_rfl
structure S38 where
  f0 : Bool
  f1 : (List ByteArray)
def z38 : S38 := ⟨false, ([] : List ByteArray)⟩
def k38 : Kd S38 := Kd.iso (Kd.pair Kd.bool (Kd.slice 9 Kd.string)) (fun x : S38 => (x.f0, x.f1))
theorem k38_open {w : World} {x : S38} {cs : List Value} (h : k38.K w x cs) : ∃ A1 c1, cs = [.bool x.f0, .slice A1 x.f1.length c1] ∧ x.f1.length ≤ c1 ∧ Kd.string.C w A1 x.f1.length x.f1 := by
  obtain ⟨_, _, rfl, rfl, ⟨A1, c1, rfl, l1, g1⟩⟩ := h
  exact ⟨A1, c1, rfl, l1, g1⟩
theorem k38_mk (w : World) (x : S38) {A1 : Option Addr} {c1 : Nat} (l1 : x.f1.length ≤ c1) (g1 : Kd.string.C w A1 x.f1.length x.f1) : k38.K w x [.bool x.f0, .slice A1 x.f1.length c1] := ⟨[.bool x.f0], [.slice A1 x.f1.length c1], rfl, rfl, ⟨A1, c1, rfl, l1, g1⟩⟩
structure S40 where
  f0 : S38
  f1 : Int
  f2 : Bool
def z40 : S40 := ⟨z38, (0 : Int), false⟩
def k40 : Kd S40 := Kd.iso (Kd.pair k38 (Kd.pair (Kd.int .i64) Kd.bool)) (fun x : S40 => (x.f0, x.f1, x.f2))
theorem k40_open {w : World} {x : S40} {cs : List Value} (h : k40.K w x cs) : ∃ A1 c1, cs = [.bool x.f0.f0, .slice A1 x.f0.f1.length c1, .int .i64 x.f1, .bool x.f2] ∧ x.f0.f1.length ≤ c1 ∧ Kd.string.C w A1 x.f0.f1.length x.f0.f1 := by
  obtain ⟨_, _, rfl, s0, ⟨_, _, rfl, rfl, rfl⟩⟩ := h
  obtain ⟨A1, c1, rfl, l1, g1⟩ := k38_open s0
  exact ⟨A1, c1, rfl, l1, g1⟩
theorem k40_mk (w : World) (x : S40) {A1 : Option Addr} {c1 : Nat} (l1 : x.f0.f1.length ≤ c1) (g1 : Kd.string.C w A1 x.f0.f1.length x.f0.f1) : k40.K w x [.bool x.f0.f0, .slice A1 x.f0.f1.length c1, .int .i64 x.f1, .bool x.f2] := ⟨[.bool x.f0.f0, .slice A1 x.f0.f1.length c1], [.int .i64 x.f1, .bool x.f2], rfl, (k38_mk w x.f0 l1 g1), ⟨[.int .i64 x.f1], [.bool x.f2], rfl, rfl, rfl⟩⟩
def rd_T40 (xs : List S40) (i : Int) : S40 := xs.getD i.toNat z40
theorem at_T40 {w : World} {A : Option Addr} {n : Nat} {xs : List S40} (h : Kd.C k40 w A n xs) (i : Int) (h0 : 0 ≤ i) (h1 : i < n) : ∃ ad A1 c1, A = some ad ∧ w.cell? (ad.add (i.toNat * 4)) = some (.bool (rd_T40 xs i).f0.f0) ∧ w.cell? ⟨(ad.add (i.toNat * 4)).block, (ad.add (i.toNat * 4)).off + 1, none⟩ = some (.slice A1 (rd_T40 xs i).f0.f1.length c1) ∧ w.cell? ⟨(ad.add (i.toNat * 4)).block, (ad.add (i.toNat * 4)).off + 2, none⟩ = some (.int .i64 (rd_T40 xs i).f1) ∧ w.cell? ⟨(ad.add (i.toNat * 4)).block, (ad.add (i.toNat * 4)).off + 3, none⟩ = some (.bool (rd_T40 xs i).f2) ∧ (rd_T40 xs i).f0.f1.length ≤ c1 ∧ Kd.string.C w A1 (rd_T40 xs i).f0.f1.length (rd_T40 xs i).f0.f1 := by
  obtain ⟨ad, c, e, _, hK, hc0⟩ := Kd.C_get h z40 i h0 h1
  have hc : ∀ j u, c[j]? = some u → w.cell? (ad.add (i.toNat * 4 + j)) = some u := hc0
  obtain ⟨A1, c1, rfl, l1, g1⟩ := k40_open hK
  exact ⟨ad, A1, c1, e, hc 0 _ rfl, by rw [← add_field _ _ 1 (by omega)]; exact hc 1 _ rfl, by rw [← add_field _ _ 2 (by omega)]; exact hc 2 _ rfl, by rw [← add_field _ _ 3 (by omega)]; exact hc 3 _ rfl, l1, g1⟩
structure S33 where
  f0 : (List S40)
  f1 : Bool
  f2 : Bool
def z33 : S33 := ⟨([] : List S40), false, false⟩
def k33 : Kd S33 := Kd.iso (Kd.pair (Kd.slice 40 k40) (Kd.pair Kd.bool Kd.bool)) (fun x : S33 => (x.f0, x.f1, x.f2))
theorem k33_open {w : World} {x : S33} {cs : List Value} (h : k33.K w x cs) : ∃ A0 c0, cs = [.slice A0 x.f0.length c0, .bool x.f1, .bool x.f2] ∧ x.f0.length ≤ c0 ∧ k40.C w A0 x.f0.length x.f0 := by
  obtain ⟨_, _, rfl, ⟨A0, c0, rfl, l0, g0⟩, ⟨_, _, rfl, rfl, rfl⟩⟩ := h
  exact ⟨A0, c0, rfl, l0, g0⟩
theorem k33_mk (w : World) (x : S33) {A0 : Option Addr} {c0 : Nat} (l0 : x.f0.length ≤ c0) (g0 : k40.C w A0 x.f0.length x.f0) : k33.K w x [.slice A0 x.f0.length c0, .bool x.f1, .bool x.f2] := ⟨[.slice A0 x.f0.length c0], [.bool x.f1, .bool x.f2], rfl, ⟨A0, c0, rfl, l0, g0⟩, ⟨[.bool x.f1], [.bool x.f2], rfl, rfl, rfl⟩⟩
theorem k33_mkM (w : World) (base : Nat) (ok : Nat → Prop) (x : S33) {v0 : Value} (g0 : k40.R 40 w base ok v0 x.f0) : k33.M w base ok x [v0, .bool x.f1, .bool x.f2] := ⟨[v0], [.bool x.f1, .bool x.f2], rfl, ⟨v0, rfl, g0⟩, ⟨[.bool x.f1], [.bool x.f2], rfl, rfl, rfl⟩⟩
def rd_T33 (xs : List S33) (i : Int) : S33 := xs.getD i.toNat z33
theorem at_T33 {w : World} {A : Option Addr} {n : Nat} {xs : List S33} (h : Kd.C k33 w A n xs) (i : Int) (h0 : 0 ≤ i) (h1 : i < n) : ∃ ad A0 c0, A = some ad ∧ w.cell? (ad.add (i.toNat * 3)) = some (.slice A0 (rd_T33 xs i).f0.length c0) ∧ w.cell? ⟨(ad.add (i.toNat * 3)).block, (ad.add (i.toNat * 3)).off + 1, none⟩ = some (.bool (rd_T33 xs i).f1) ∧ w.cell? ⟨(ad.add (i.toNat * 3)).block, (ad.add (i.toNat * 3)).off + 2, none⟩ = some (.bool (rd_T33 xs i).f2) ∧ (rd_T33 xs i).f0.length ≤ c0 ∧ k40.C w A0 (rd_T33 xs i).f0.length (rd_T33 xs i).f0 := by
  obtain ⟨ad, c, e, _, hK, hc0⟩ := Kd.C_get h z33 i h0 h1
  have hc : ∀ j u, c[j]? = some u → w.cell? (ad.add (i.toNat * 3 + j)) = some u := hc0
  obtain ⟨A0, c0, rfl, l0, g0⟩ := k33_open hK
  exact ⟨ad, A0, c0, e, hc 0 _ rfl, by rw [← add_field _ _ 1 (by omega)]; exact hc 1 _ rfl, by rw [← add_field _ _ 2 (by omega)]; exact hc 2 _ rfl, l0, g0⟩
structure S53 where
  f0 : ByteArray
  f1 : (List S53)
def z53 : S53 := ⟨(⟨#[]⟩ : ByteArray), ([] : List S53)⟩
def F53 (d : Kd S53) : Kd S53 := Kd.iso (Kd.pair Kd.string (Kd.slice 53 d)) (fun x : S53 => (x.f0, x.f1))
theorem mono53 : Kd.Mono F53 := Kd.mono_iso _ (Kd.mono_pair (Kd.mono_const _) (Kd.mono_slice 53 Kd.mono_id))
theorem sub53 : Kd.Sub F53 [53] := Kd.sub_iso _ (Kd.sub_pair (Kd.sub_const _ (by decide)) (Kd.sub_slice 53 (by decide) Kd.sub_id))
theorem sz53 : ∀ n, (Kd.upto F53 2 [53] n).sz = 2 := Kd.upto_sz (fun _ => rfl)
def k53 : Kd S53 := Kd.fix F53 2 [53] sz53 (Kd.upto_E sub53)
theorem k53_open {w : World} {x : S53} {cs : List Value} (h : k53.K w x cs) : ∃ A1 c1, cs = [.string x.f0, .slice A1 x.f1.length c1] ∧ x.f1.length ≤ c1 ∧ k53.C w A1 x.f1.length x.f1 := by
  obtain ⟨n, h⟩ := h
  cases n with
  | zero => exact h.elim
  | succ n =>
    obtain ⟨_, _, rfl, rfl, ⟨A1, c1, rfl, l1, g1⟩⟩ := h
    exact ⟨A1, c1, rfl, l1, Kd.fix_C g1⟩
theorem k53_mk (w : World) (x : S53) {A1 : Option Addr} {c1 : Nat} (l1 : x.f1.length ≤ c1) (g1 : k53.C w A1 x.f1.length x.f1) : k53.K w x [.string x.f0, .slice A1 x.f1.length c1] := by
  obtain ⟨n1, q1⟩ := Kd.fix_C_back mono53 g1
  have r1 := Kd.upto_C_le mono53 sz53 (show n1 ≤ n1 by omega) q1
  exact ⟨n1 + 1, ⟨[.string x.f0], [.slice A1 x.f1.length c1], rfl, rfl, ⟨A1, c1, rfl, l1, r1⟩⟩⟩
theorem k53_mkM (w : World) (base : Nat) (ok : Nat → Prop) (x : S53) {v1 : Value} (g1 : k53.R 53 w base ok v1 x.f1) : k53.M w base ok x [.string x.f0, v1] := by
  obtain ⟨n1, q1⟩ := Kd.fix_R_back mono53 g1
  have r1 := Kd.upto_R_le mono53 sz53 (show n1 ≤ n1 by omega) q1
  exact ⟨n1 + 1, ⟨[.string x.f0], [v1], rfl, rfl, ⟨v1, rfl, r1⟩⟩⟩
def rd_T53 (xs : List S53) (i : Int) : S53 := xs.getD i.toNat z53
theorem at_T53 {w : World} {A : Option Addr} {n : Nat} {xs : List S53} (h : Kd.C k53 w A n xs) (i : Int) (h0 : 0 ≤ i) (h1 : i < n) : ∃ ad A1 c1, A = some ad ∧ w.cell? (ad.add (i.toNat * 2)) = some (.string (rd_T53 xs i).f0) ∧ w.cell? ⟨(ad.add (i.toNat * 2)).block, (ad.add (i.toNat * 2)).off + 1, none⟩ = some (.slice A1 (rd_T53 xs i).f1.length c1) ∧ (rd_T53 xs i).f1.length ≤ c1 ∧ k53.C w A1 (rd_T53 xs i).f1.length (rd_T53 xs i).f1 := by
  obtain ⟨ad, c, e, _, hK, hc0⟩ := Kd.C_get h z53 i h0 h1
  have hc : ∀ j u, c[j]? = some u → w.cell? (ad.add (i.toNat * 2 + j)) = some u := hc0
  obtain ⟨A1, c1, rfl, l1, g1⟩ := k53_open hK
  exact ⟨ad, A1, c1, e, hc 0 _ rfl, by rw [← add_field _ _ 1 (by omega)]; exact hc 1 _ rfl, l1, g1⟩
def rd_L10 (xs : List (List S53)) (i : Int) : (List S53) := xs.getD i.toNat ([] : List S53)
theorem at_L10 {w : World} {A : Option Addr} {n : Nat} {xs : List (List S53)} (h : Kd.C (Kd.slice 53 k53) w A n xs) (i : Int) (h0 : 0 ≤ i) (h1 : i < n) : ∃ ad A0 c0, A = some ad ∧ w.cell? (ad.add i.toNat) = some (.slice A0 (rd_L10 xs i).length c0) ∧ (rd_L10 xs i).length ≤ c0 ∧ k53.C w A0 (rd_L10 xs i).length (rd_L10 xs i) := by
  obtain ⟨ad, c, e, _, hK, hc0⟩ := Kd.C_get h ([] : List S53) i h0 h1
  have hc : ∀ j u, c[j]? = some u → w.cell? (ad.add (i.toNat * 1 + j)) = some u := hc0
  obtain ⟨A0, c0, rfl, l0, g0⟩ := hK
  exact ⟨ad, A0, c0, e, by have hq := hc 0 _ rfl; rwa [Nat.mul_one, Nat.add_zero] at hq, l0, g0⟩
structure S67 where
  f0 : ByteArray
  f1 : (List S67)
set_option maxRecDepth 100000 in 
theorem run_field_87_0 (v0 : Value) (w : World) : (Instr.field 87 (.agg #[v0]) 0).run Try.prog w = .ok (v0) w := by rfl
abbrev bA_ := @below_alloc
abbrev bN_ := @pw_below_drewN
abbrev bD_ := @below_drew1
abbrev rA_ := @Kd.R_alloc
abbrev rN_ := @Kd.R_drewN
abbrev rD_ := @Kd.R_drew
abbrev cA_ := @Kd.C_alloc
abbrev cN_ := @Kd.C_drewN
abbrev cD_ := @Kd.C_drew
end Go.Proofs.Ytoihiehoolehiaa.PX
set_option linter.unusedVariables false
namespace Go.Proofs.Ytoihiehoolehiaa
open Go.RowKit
abbrev Str:=List UInt8
def ba (l:Str):ByteArray:=⟨l.toArray⟩
end Go.Proofs.Ytoihiehoolehiaa
namespace Go.Proofs.Ytoihiehoolehiaa.PX
open Go.RowKit Go.Proofs.YtoihiehoolehiaaW.PrintWords Go.Proofs.YtoihiehoolehiaaW.PrintLast Go.Proofs.YtoihiehoolehiaaW.PrintMore Go.Proofs.Ytoihiehoolehiaa
def tl (b:ByteArray):Str:=b.data.toList
theorem ba_tl (b:ByteArray):ba (tl b)=b:=by cases b;simp [ba,tl]
theorem tl_ba (s:Str):tl (ba s)=s:=by simp [ba,tl]
theorem map_ba_tl (l:List ByteArray):(l.map tl).map ba=l:=by
 rw [List.map_map]
 have:(ba ∘ tl)=id:=funext fun b=>ba_tl b
 rw [this,List.map_id]
theorem map_tl_ba (l:List Str):(l.map ba).map tl=l:=by
 rw [List.map_map]
 have:(tl ∘ ba)=id:=funext fun b=>tl_ba b
 rw [this,List.map_id]
theorem tl_inj {a b:ByteArray} (h:tl a=tl b):a=b:=by rw [← ba_tl a,← ba_tl b,h]
theorem toList_tl (b:ByteArray):b.toList=tl b:=ByteArray.toList_eq b
theorem less_iff (a b:ByteArray):Op.bytesLess a.toList b.toList=true ↔ tl a < tl b:=by
 rw [toList_tl,toList_tl,Proofs.bytesLess_eq,decide_eq_true_eq]
theorem same_eq (a b:ByteArray):(a.toList == b.toList)=decide (a=b):=by
 rw [toList_tl,toList_tl,Bool.eq_iff_iff,beq_iff_eq,decide_eq_true_eq]
 exact ⟨tl_inj,fun h=>by rw [h]⟩
noncomputable instance (s:ByteArray) (l:List ByteArray):Decidable (s ∈ l):=Classical.propDecidable _
theorem Ev.both {α:Type} {g:Nat→Option α} {r:α} (h:Ev g r):∃ k,g k=some r:=h.rounds
theorem wrap_succ {i:Nat} (h:i < 4611686018427387904):wrap64 ((i:Int)+1)=((i+1:Nat):Int):=by unfold wrap64;omega
theorem wrap_id {i:Int} (h : -4611686018427387904≤i) (h':i≤4611686018427387904):wrap64 i=i:=by unfold wrap64;omega
theorem rdOf_nat {xs:List ByteArray} {i:Nat} (h:i < xs.length):rdOf ByteArray.empty xs (i:Int)=xs[i]:=by
 simp [rdOf,List.getD_eq_getElem?_getD,h]
abbrev Tr:=List S53
def Sorted (t:Tr):Prop:=t.Pairwise fun x y=>tl x.f0 < tl y.f0
instance (t:Tr):Decidable (Sorted t):=by unfold Sorted;exact inferInstance
end Go.Proofs.Ytoihiehoolehiaa.PX
set_option linter.unusedVariables false
set_option linter.unusedSimpArgs false
namespace Go.Proofs.Ytoihiehoolehiaa.PX
open Go.RowKit Go.Proofs.YtoihiehoolehiaaW.PrintWords Go.Proofs.YtoihiehoolehiaaW.PrintLast Go.Proofs.YtoihiehoolehiaaW.PrintMore Go.Proofs.Ytoihiehoolehiaa Go.Shelf
def idxN (p:Nat→Bool) (n:Nat):Int:=((List.range n).find? p).elim (-1) fun i=>(i:Int)
theorem idxN_hit {p:Nat→Bool} {n i:Nat} (h:i < n) (hp:p i=true) (hl:∀ j,j < i→p j=false):idxN p n=(i:Int):=by
 unfold idxN
 rw [List.find?_range_eq_some.2 ⟨hp,List.mem_range.2 h,fun j hj=>by rw [hl j hj];rfl⟩]
 rfl
theorem idxN_miss {p:Nat→Bool} {n:Nat} (hl:∀ j,j < n→p j=false):idxN p n = -1:=by
 unfold idxN
 rw [List.find?_range_eq_none.2 (fun j hj=>by rw [hl j hj];rfl)]
 rfl
theorem idxN_cases (p:Nat→Bool) (n:Nat):(∃ i,i < n∧p i=true∧(∀ j,j < i→p j=false)∧idxN p n=(i:Int))∨((∀ j,j < n→p j=false)∧idxN p n = -1):=by
 cases e:(List.range n).find? p with
 | none =>
  have h:=List.find?_range_eq_none.1 e
  have h':∀ j,j < n→p j=false:=fun j hj=>by simpa using h j hj
  exact .inr ⟨h',idxN_miss h'⟩
 | some i =>
  obtain ⟨h1,h2,h3⟩:=List.find?_range_eq_some.1 e
  have h':∀ j,j < i→p j=false:=fun j hj=>by simpa using h3 j hj
  exact .inl ⟨i,List.mem_range.1 h2,h1,h',idxN_hit (List.mem_range.1 h2) h1 h'⟩
def anyN (p:Nat→Bool) (n:Nat):Bool:=decide (0≤idxN p n)
theorem anyN_eq (p:Nat→Bool) (n:Nat):anyN p n=(List.range n).any p:=by
 unfold anyN
 rcases idxN_cases p n with ⟨i,h1,h2,h3,h4⟩|⟨h1,h2⟩
 ·rw [h4,decide_eq_true (by omega),(List.any_eq_true.2 ⟨i,List.mem_range.2 h1,h2⟩:(List.range n).any p=true)]
 ·rw [h2,decide_eq_false (by omega),(List.any_eq_false.2 fun j hj=>by rw [h1 j (List.mem_range.1 hj)];simp:(List.range n).any p=false)]
set_option maxHeartbeats 4000000 in
set_option maxRecDepth 100000 in
theorem idxF (g:Nat) (lb:Array Value) (eg:∀ args w,(callFunc g args).run Try.prog w=.ok (.enter g args) w) (A:Option Addr) (c:Nat) (l:List S40) (p:Nat→Bool) (w:World) (hC:Kd.C k40 w A l.length l) (hl:l.length≤1000000000000)
  (hp:∀ i (h:i < l.length) (W:World) (A1:Option Addr) (c1:Nat),Below w.heap.size w W→Kd.C Kd.string w A1 l[i].f0.f1.length l[i].f0.f1→l[i].f0.f1.length≤c1→Calls Try.prog g (#[.agg #[.bool l[i].f0.f0,.slice A1 l[i].f0.f1.length c1,.int .i64 l[i].f1,.bool l[i].f2]] ++ lb) W fun e w'=>e=.returned (.bool (p i))∧Below W.heap.size W w') :
  Calls Try.prog 57 #[.slice A l.length c,.func (.func g) #[] lb] w fun e w'=>e=.returned (.int .i64 (idxN p l.length))∧Below w.heap.size w w':=by
 have hu:=Try.underlying40
 have HC:=Aside0.mk hC
 have HP:=Aside0.mk hp
 clear hC hp
 generalize hn:l.length=n at hl ⊢
 have HN:=Aside0.mk hn
 clear hn
 generalize hr:idxN p n=r
 have HR:=Aside0.mk hr
 clear hr
 go_enter Try.func57,Try.ntmps57
 go_wp2
 go_loopg [5,8] n (fun gg _ s8 wr=>∃ kk:Nat,kk≤n∧n - kk≤gg∧s8=.int .i64 kk∧Aside0 (Below w.heap.size w wr)∧Aside0 (∀ j,j < kk→p j=false))
 case atStart=>exact ⟨0,Nat.zero_le _,by omega,rfl,⟨Below.refl _ w⟩,⟨fun j hj=>absurd hj (Nat.not_lt_zero _)⟩⟩
 case round =>
  obtain ⟨kk,hkk,hg,rfl,HB,PF⟩:=hrel
  by_cases hlt:kk < n
  ·have hm:kk < l.length:=by rw [HN.out];exact hlt
   obtain ⟨ad,A1,c1,rfl,hx0,hx1,hx2,hx3,hx4,hx5⟩:=at_T40 HC.out (kk:Int) (by omega) (by exact_mod_cast hm)
   rw [show rd_T40 l (kk:Int)=l[kk] by simp [rd_T40,List.getD_eq_getElem?_getD,hm]] at hx0 hx1 hx2 hx3 hx4 hx5
   replace hx0:=(HB.out.cell (World.block_lt_of_cell? w _ hx0)).trans hx0
   replace hx1:=(HB.out.cell (World.block_lt_of_cell? w _ hx1)).trans hx1
   replace hx2:=(HB.out.cell (World.block_lt_of_cell? w _ hx2)).trans hx2
   replace hx3:=(HB.out.cell (World.block_lt_of_cell? w _ hx3)).trans hx3
   have hcall:=HP.out kk hm wr A1 c1 HB.out hx5 hx4
   clear hx4 hx5
   simp only [Int.toNat_natCast] at hx0 hx1 hx2 hx3
   generalize (l[kk]).f0.f1.length=m1 at hx1 hcall
   generalize (l[kk]).f0.f0=y0 at hx0 hcall
   generalize (l[kk]).f1=y2 at hx2 hcall
   generalize (l[kk]).f2=y3 at hx3 hcall
   clear hm
   have hltz:(kk:Int) < (n:Int):=by omega
   cases hq:p kk with
   | true =>
    rw [hq] at hcall
    have HQ:=Aside0.mk hq
    clear hq
    go_wp2_with (go_at_fn g;refine hcall.mono ?_;rintro e w' ⟨rfl,hb'⟩)
    go_ret
    refine ⟨?_,below_then HB.out HB.out.size hb'⟩
    rw [← HR.out,idxN_hit hlt HQ.out PF.out]
    rfl
   | false =>
    rw [hq] at hcall
    have HQ:=Aside0.mk hq
    clear hq
    go_wp2_with (go_at_fn g;refine hcall.mono ?_;rintro e w' ⟨rfl,hb'⟩)
    go_roundg (n - (kk+1))
    case measure=>omega
    case rel =>
     refine ⟨kk+1,by omega,by omega,by go_num,⟨below_then HB.out HB.out.size hb'⟩,⟨fun j hj=>?_⟩⟩
     by_cases e:j=kk
     ·subst e
      exact HQ.out
     ·exact PF.out j (by omega)
  ·have hltz:¬ (kk:Int) < (n:Int):=by omega
   have:kk=n:=by omega
   subst this
   go_wp2
   go_ret
   refine ⟨?_,HB.out⟩
   rw [← HR.out,idxN_miss PF.out]
   rfl
set_option maxHeartbeats 4000000 in
set_option maxRecDepth 100000 in
theorem idxE (g:Nat) (lb:Array Value) (eg:∀ args w,(callFunc g args).run Try.prog w=.ok (.enter g args) w) (A:Option Addr) (c:Nat) (l:List S53) (p:Nat→Bool) (w:World) (hC:Kd.C k53 w A l.length l) (hl:l.length≤1000000000000)
  (hp:∀ i (h:i < l.length) (W:World) (A1:Option Addr) (c1:Nat),Below w.heap.size w W→Kd.C k53 w A1 l[i].f1.length l[i].f1→l[i].f1.length≤c1→Calls Try.prog g (#[.agg #[.string l[i].f0,.slice A1 l[i].f1.length c1]] ++ lb) W fun e w'=>e=.returned (.bool (p i))∧Below W.heap.size W w') :
  Calls Try.prog 58 #[.slice A l.length c,.func (.func g) #[] lb] w fun e w'=>e=.returned (.int .i64 (idxN p l.length))∧Below w.heap.size w w':=by
 have hu:=Try.underlying53
 have HC:=Aside0.mk hC
 have HP:=Aside0.mk hp
 clear hC hp
 generalize hn:l.length=n at hl ⊢
 have HN:=Aside0.mk hn
 clear hn
 generalize hr:idxN p n=r
 have HR:=Aside0.mk hr
 clear hr
 go_enter Try.func58,Try.ntmps58
 go_wp2
 go_loopg [5,8] n (fun gg _ s8 wr=>∃ kk:Nat,kk≤n∧n - kk≤gg∧s8=.int .i64 kk∧Aside0 (Below w.heap.size w wr)∧Aside0 (∀ j,j < kk→p j=false))
 case atStart=>exact ⟨0,Nat.zero_le _,by omega,rfl,⟨Below.refl _ w⟩,⟨fun j hj=>absurd hj (Nat.not_lt_zero _)⟩⟩
 case round =>
  obtain ⟨kk,hkk,hg,rfl,HB,PF⟩:=hrel
  by_cases hlt:kk < n
  ·have hm:kk < l.length:=by rw [HN.out];exact hlt
   obtain ⟨ad,A1,c1,rfl,hx0,hx1,hx4,hx5⟩:=at_T53 HC.out (kk:Int) (by omega) (by exact_mod_cast hm)
   rw [show rd_T53 l (kk:Int)=l[kk] by simp [rd_T53,List.getD_eq_getElem?_getD,hm]] at hx0 hx1 hx4 hx5
   replace hx0:=(HB.out.cell (World.block_lt_of_cell? w _ hx0)).trans hx0
   replace hx1:=(HB.out.cell (World.block_lt_of_cell? w _ hx1)).trans hx1
   have hcall:=HP.out kk hm wr A1 c1 HB.out hx5 hx4
   clear hx4 hx5
   simp only [Int.toNat_natCast] at hx0 hx1
   generalize (l[kk]).f1.length=m1 at hx1 hcall
   generalize (l[kk]).f0=y0 at hx0 hcall
   clear hm
   have hltz:(kk:Int) < (n:Int):=by omega
   cases hq:p kk with
   | true =>
    rw [hq] at hcall
    have HQ:=Aside0.mk hq
    clear hq
    go_wp2_with (go_at_fn g;refine hcall.mono ?_;rintro e w' ⟨rfl,hb'⟩)
    go_ret
    refine ⟨?_,below_then HB.out HB.out.size hb'⟩
    rw [← HR.out,idxN_hit hlt HQ.out PF.out]
    rfl
   | false =>
    rw [hq] at hcall
    have HQ:=Aside0.mk hq
    clear hq
    go_wp2_with (go_at_fn g;refine hcall.mono ?_;rintro e w' ⟨rfl,hb'⟩)
    go_roundg (n - (kk+1))
    case measure=>omega
    case rel =>
     refine ⟨kk+1,by omega,by omega,by go_num,⟨below_then HB.out HB.out.size hb'⟩,⟨fun j hj=>?_⟩⟩
     by_cases e:j=kk
     ·subst e
      exact HQ.out
     ·exact PF.out j (by omega)
  ·have hltz:¬ (kk:Int) < (n:Int):=by omega
   have:kk=n:=by omega
   subst this
   go_wp2
   go_ret
   refine ⟨?_,HB.out⟩
   rw [← HR.out,idxN_miss PF.out]
   rfl
set_option maxHeartbeats 4000000 in
set_option maxRecDepth 100000 in
theorem idxS (g:Nat) (lb:Array Value) (eg:∀ args w,(callFunc g args).run Try.prog w=.ok (.enter g args) w) (A:Option Addr) (c:Nat) (l:List ByteArray) (p:Nat→Bool) (w:World) (hC:Kd.C Kd.string w A l.length l) (hl:l.length≤1000000000000)
  (hp:∀ i (h:i < l.length) (W:World),Below w.heap.size w W→Calls Try.prog g (#[.string l[i]] ++ lb) W fun e w'=>e=.returned (.bool (p i))∧Below W.heap.size W w') :
  Calls Try.prog 64 #[.slice A l.length c,.func (.func g) #[] lb] w fun e w'=>e=.returned (.int .i64 (idxN p l.length))∧Below w.heap.size w w':=by
 have HC:=Aside0.mk hC
 have HP:=Aside0.mk hp
 clear hC hp
 generalize hn:l.length=n at hl ⊢
 have HN:=Aside0.mk hn
 clear hn
 generalize hr:idxN p n=r
 have HR:=Aside0.mk hr
 clear hr
 go_enter Try.func64,Try.ntmps64
 go_wp2
 go_loopg [5,8] n (fun gg _ s8 wr=>∃ kk:Nat,kk≤n∧n - kk≤gg∧s8=.int .i64 kk∧Aside0 (Below w.heap.size w wr)∧Aside0 (∀ j,j < kk→p j=false))
 case atStart=>exact ⟨0,Nat.zero_le _,by omega,rfl,⟨Below.refl _ w⟩,⟨fun j hj=>absurd hj (Nat.not_lt_zero _)⟩⟩
 case round =>
  obtain ⟨kk,hkk,hg,rfl,HB,PF⟩:=hrel
  by_cases hlt:kk < n
  ·have hm:kk < l.length:=by rw [HN.out];exact hlt
   obtain ⟨ad,rfl,hx0⟩:=Kd.at_string HC.out (kk:Int) (by omega) (by exact_mod_cast hm)
   rw [rdOf_nat hm] at hx0
   replace hx0:=(HB.out.cell (World.block_lt_of_cell? w _ hx0)).trans hx0
   have hcall:=HP.out kk hm wr HB.out
   simp only [Int.toNat_natCast] at hx0
   generalize l[kk]=y0 at hx0 hcall
   clear hm
   have hltz:(kk:Int) < (n:Int):=by omega
   cases hq:p kk with
   | true =>
    rw [hq] at hcall
    have HQ:=Aside0.mk hq
    clear hq
    go_wp2_with (go_at_fn g;refine hcall.mono ?_;rintro e w' ⟨rfl,hb'⟩)
    go_ret
    refine ⟨?_,below_then HB.out HB.out.size hb'⟩
    rw [← HR.out,idxN_hit hlt HQ.out PF.out]
    rfl
   | false =>
    rw [hq] at hcall
    have HQ:=Aside0.mk hq
    clear hq
    go_wp2_with (go_at_fn g;refine hcall.mono ?_;rintro e w' ⟨rfl,hb'⟩)
    go_roundg (n - (kk+1))
    case measure=>omega
    case rel =>
     refine ⟨kk+1,by omega,by omega,by go_num,⟨below_then HB.out HB.out.size hb'⟩,⟨fun j hj=>?_⟩⟩
     by_cases e:j=kk
     ·subst e
      exact HQ.out
     ·exact PF.out j (by omega)
  ·have hltz:¬ (kk:Int) < (n:Int):=by omega
   have:kk=n:=by omega
   subst this
   go_wp2
   go_ret
   refine ⟨?_,HB.out⟩
   rw [← HR.out,idxN_miss PF.out]
   rfl
theorem anyF (g:Nat) (lb:Array Value) (eg:∀ args w,(callFunc g args).run Try.prog w=.ok (.enter g args) w) (A:Option Addr) (c:Nat) (l:List S40) (p:Nat→Bool) (w:World) (hC:Kd.C k40 w A l.length l) (hl:l.length≤1000000000000)
  (hp:∀ i (h:i < l.length) (W:World) (A1:Option Addr) (c1:Nat),Below w.heap.size w W→Kd.C Kd.string w A1 l[i].f0.f1.length l[i].f0.f1→l[i].f0.f1.length≤c1→Calls Try.prog g (#[.agg #[.bool l[i].f0.f0,.slice A1 l[i].f0.f1.length c1,.int .i64 l[i].f1,.bool l[i].f2]] ++ lb) W fun e w'=>e=.returned (.bool (p i))∧Below W.heap.size W w') :
  Calls Try.prog 35 #[.slice A l.length c,.func (.func g) #[] lb] w fun e w'=>e=.returned (.bool (anyN p l.length))∧Below w.heap.size w w':=by
 have hc:=idxF g lb eg A c l p w hC hl hp
 clear hC hp
 unfold anyN
 generalize l.length=n at hc hl ⊢
 generalize idxN p n=r at hc ⊢
 go_enter Try.func35,Try.ntmps35
 go_wp2_with (go_at_call 57;refine hc.mono ?_;rintro e w' ⟨rfl,hb'⟩)
 go_ret
 exact ⟨rfl,hb'⟩
theorem anyE (g:Nat) (lb:Array Value) (eg:∀ args w,(callFunc g args).run Try.prog w=.ok (.enter g args) w) (A:Option Addr) (c:Nat) (l:List S53) (p:Nat→Bool) (w:World) (hC:Kd.C k53 w A l.length l) (hl:l.length≤1000000000000)
  (hp:∀ i (h:i < l.length) (W:World) (A1:Option Addr) (c1:Nat),Below w.heap.size w W→Kd.C k53 w A1 l[i].f1.length l[i].f1→l[i].f1.length≤c1→Calls Try.prog g (#[.agg #[.string l[i].f0,.slice A1 l[i].f1.length c1]] ++ lb) W fun e w'=>e=.returned (.bool (p i))∧Below W.heap.size W w') :
  Calls Try.prog 36 #[.slice A l.length c,.func (.func g) #[] lb] w fun e w'=>e=.returned (.bool (anyN p l.length))∧Below w.heap.size w w':=by
 have hc:=idxE g lb eg A c l p w hC hl hp
 clear hC hp
 unfold anyN
 generalize l.length=n at hc hl ⊢
 generalize idxN p n=r at hc ⊢
 go_enter Try.func36,Try.ntmps36
 go_wp2_with (go_at_call 58;refine hc.mono ?_;rintro e w' ⟨rfl,hb'⟩)
 go_ret
 exact ⟨rfl,hb'⟩
theorem anyS (g:Nat) (lb:Array Value) (eg:∀ args w,(callFunc g args).run Try.prog w=.ok (.enter g args) w) (A:Option Addr) (c:Nat) (l:List ByteArray) (p:Nat→Bool) (w:World) (hC:Kd.C Kd.string w A l.length l) (hl:l.length≤1000000000000)
  (hp:∀ i (h:i < l.length) (W:World),Below w.heap.size w W→Calls Try.prog g (#[.string l[i]] ++ lb) W fun e w'=>e=.returned (.bool (p i))∧Below W.heap.size W w') :
  Calls Try.prog 55 #[.slice A l.length c,.func (.func g) #[] lb] w fun e w'=>e=.returned (.bool (anyN p l.length))∧Below w.heap.size w w':=by
 have hc:=idxS g lb eg A c l p w hC hl hp
 clear hC hp
 unfold anyN
 generalize l.length=n at hc hl ⊢
 generalize idxN p n=r at hc ⊢
 go_enter Try.func55,Try.ntmps55
 go_wp2_with (go_at_call 64;refine hc.mono ?_;rintro e w' ⟨rfl,hb'⟩)
 go_ret
 exact ⟨rfl,hb'⟩
theorem firstF (g:Nat) (lb:Array Value) (eg:∀ args w,(callFunc g args).run Try.prog w=.ok (.enter g args) w) (A:Option Addr) (c:Nat) (l:List S40) (p:Nat→Bool) (w:World) (hC:Kd.C k40 w A l.length l) (hl:l.length≤1000000000000)
  (hp:∀ i (h:i < l.length) (W:World) (A1:Option Addr) (c1:Nat),Below w.heap.size w W→Kd.C Kd.string w A1 l[i].f0.f1.length l[i].f0.f1→l[i].f0.f1.length≤c1→Calls Try.prog g (#[.agg #[.bool l[i].f0.f0,.slice A1 l[i].f0.f1.length c1,.int .i64 l[i].f1,.bool l[i].f2]] ++ lb) W fun e w'=>e=.returned (.bool (p i))∧Below W.heap.size W w') :
  Calls Try.prog 39 #[.slice A l.length c,.func (.func g) #[] lb] w fun e w'=>e=.returned (.int .i64 (idxN p l.length))∧Below w.heap.size w w':=by
 have hc:=idxF g lb eg A c l p w hC hl hp
 clear hC hp
 generalize l.length=n at hc hl ⊢
 generalize idxN p n=r at hc ⊢
 go_enter Try.func39,Try.ntmps39
 go_wp2_with (go_at_call 57;refine hc.mono ?_;rintro e w' ⟨rfl,hb'⟩)
 go_ret
 exact ⟨rfl,hb'⟩
theorem firstS (g:Nat) (lb:Array Value) (eg:∀ args w,(callFunc g args).run Try.prog w=.ok (.enter g args) w) (A:Option Addr) (c:Nat) (l:List ByteArray) (p:Nat→Bool) (w:World) (hC:Kd.C Kd.string w A l.length l) (hl:l.length≤1000000000000)
  (hp:∀ i (h:i < l.length) (W:World),Below w.heap.size w W→Calls Try.prog g (#[.string l[i]] ++ lb) W fun e w'=>e=.returned (.bool (p i))∧Below W.heap.size W w') :
  Calls Try.prog 50 #[.slice A l.length c,.func (.func g) #[] lb] w fun e w'=>e=.returned (.int .i64 (idxN p l.length))∧Below w.heap.size w w':=by
 have hc:=idxS g lb eg A c l p w hC hl hp
 clear hC hp
 generalize l.length=n at hc hl ⊢
 generalize idxN p n=r at hc ⊢
 go_enter Try.func50,Try.ntmps50
 go_wp2_with (go_at_call 64;refine hc.mono ?_;rintro e w' ⟨rfl,hb'⟩)
 go_ret
 exact ⟨rfl,hb'⟩
end Go.Proofs.Ytoihiehoolehiaa.PX
namespace Go.Proofs.Ytoihiehoolehiaa.PX
open Go.RowKit Go.Proofs.YtoihiehoolehiaaW.PrintWords Go.Proofs.YtoihiehoolehiaaW.PrintLast Go.Proofs.YtoihiehoolehiaaW.PrintMore
attribute [local go_sem] max2_int min2_int max_two min_two max_three min_three max_four min_four   
set_option linter.unusedVariables false
set_option linter.unusedSimpArgs false
attribute [local go_sem] run_field_87_0
def slices_Index_string_string.l0:Nat→List ByteArray→ByteArray→Int→Int→Option (Int)
 | 0,_,_,_,_=>none
 | k+1,x0,x1,x7,x8=>if x8 < x7 then (if 0≤x8 then (if x8 < (x0.length:Int) then (if x1.toList=(rdOf ByteArray.empty x0 x8).toList then (some x8) else (slices_Index_string_string.l0 k x0 x1 x7 (wrap64 (x8+1)))) else (none)) else (none)) else (some (-1))
def slices_Index_string_string.f (k:Nat) (l0:List ByteArray) (a1:ByteArray):Option (Int):=slices_Index_string_string.l0 k l0 a1 (l0.length:Int) 0
theorem slices_Index_string_string.mono_l:∀ k,(∀ y0 y1 y2 y3,LeO (slices_Index_string_string.l0 k y0 y1 y2 y3) (slices_Index_string_string.l0 (k+1) y0 y1 y2 y3))
 | 0=>fun _ _ _ _ r h=>by simp [slices_Index_string_string.l0] at h
 | k+1=>by
  have ih0:=slices_Index_string_string.mono_l k
  ·intro y0 y1 y2 y3
   unfold slices_Index_string_string.l0
   repeat' first
   | (with_reducible exact ih0 _ _ _ _)
   | (with_reducible exact LeO.refl _)
   | (with_reducible exact LeO.none _)
   | (with_reducible refine LeO.ite ?_ ?_)
   | (with_reducible refine LeO.bind ?_ (fun _=>?_))
   | exact ih0 _ _ _ _
   | exact LeO.none _
   | refine LeO.ite ?_ ?_
   | refine LeO.bind ?_ (fun _=>?_)
theorem slices_Index_string_string.mono:∀ a0 a1 k,LeO (slices_Index_string_string.f k a0 a1) (slices_Index_string_string.f (k+1) a0 a1):=by
 intro a0 a1 k
 have ih0:=slices_Index_string_string.mono_l k
 unfold slices_Index_string_string.f
 repeat' first
   | (with_reducible exact ih0 _ _ _ _)
   | (with_reducible exact LeO.refl _)
   | (with_reducible exact LeO.none _)
   | (with_reducible refine LeO.ite ?_ ?_)
   | (with_reducible refine LeO.bind ?_ (fun _=>?_))
   | exact ih0 _ _ _ _
   | exact LeO.none _
   | refine LeO.ite ?_ ?_
   | refine LeO.bind ?_ (fun _=>?_)
set_option maxHeartbeats 8000000 in
set_option maxRecDepth 100000 in
theorem slices_Index_string_string.calls (k:Nat) (A0:Option Addr) (c0:Nat) (l0:List ByteArray) (a1:ByteArray) (r:Int) (w:World) (hr0:Kd.C Kd.string w A0 l0.length l0) (hc0:l0.length≤c0) (h:slices_Index_string_string.f k l0 a1=some r) :
  Calls Try.prog 65 #[.slice A0 l0.length c0,.string a1] w fun e w'=>e=.returned (.int .i64 r)∧Drawn0 w w':=by
 have HR0:=Aside0.mk hr0
 have HC0:=Aside0.mk hc0
 clear hr0 hc0
 have H:(slices_Index_string_string.l0 k l0 a1 (l0.length:Int) 0)=some r:=h
 clear h
 have H':=Aside0.mk H
 clear H
 go_enter Try.func65,Try.ntmps65
 go_wp2
 go_loopg [8] k (fun kq v8 w'=>∃ (x8_1:Int),v8=.int .i64 x8_1∧Aside0 (slices_Index_string_string.l0 kq l0 a1 (l0.length:Int) x8_1=some r)∧Aside0 (kq≤k)∧Drawn0 w w')
 case atStart=>exact ⟨(0),(by first|rfl|(simp;done)|(simp [*];done)),H',⟨Nat.le_refl _⟩,by repeat (first|exact Drawn0.refl _|apply Drawn0.step)⟩
 case round =>
  clear H'
  try clear p2
  obtain ⟨x8_1,rfl,HA,HK1,⟨m1,rfl⟩⟩:=hrel
  cases gk with
  | zero=>exact absurd HA.out (by simp [slices_Index_string_string.l0])
  | succ k1 =>
   have H:=HA.out
   clear HA
   simp only [slices_Index_string_string.l0] at H
   by_cases c3:x8_1 < (l0.length:Int)
   ·rw [if_pos c3] at H
    have c3b0:decide (x8_1 < (l0.length:Int))=true:=decide_eq_true c3
    clear c3
    by_cases c4:0≤x8_1
    ·rw [if_pos c4] at H
     have c4b0:decide (0≤x8_1)=true:=decide_eq_true c4
     clear c4
     by_cases c5:x8_1 < (l0.length:Int)
     ·rw [if_pos c5] at H
      have c5b0:decide (x8_1 < (l0.length:Int))=true:=decide_eq_true c5
      clear c5
      by_cases c6:a1.toList=(rdOf ByteArray.empty l0 x8_1).toList
      ·rw [if_pos c6] at H
       have c6b0:(a1.toList == (rdOf ByteArray.empty l0 x8_1).toList)=true:=beq_iff_eq.mpr c6
       have c6b1:(a1.toList != (rdOf ByteArray.empty l0 x8_1).toList)=false:=bne_eq_false_iff_eq.mpr c6
       clear c6
       obtain rfl:=Option.some.inj H
       have p547:0≤(x8_1:Int):=of_decide_eq_true (by first|(with_reducible assumption)|assumption)
       have q547:x8_1 < (l0.length:Int):=of_decide_eq_true (by first|(with_reducible assumption)|assumption)
       obtain ⟨ad547,e547,hx547_0⟩:=Kd.at_string HR0.out x8_1 p547 q547
       cases e547
       replace p547:=eq_true p547
       replace q547:=eq_true q547
       go_wp2
       go_ret
       exact ⟨by first|rfl|(simp;done)|(simp [*];done),by repeat (first|exact Drawn0.refl _|apply Drawn0.step)⟩
      ·rw [if_neg c6] at H
       have c6b0:(a1.toList == (rdOf ByteArray.empty l0 x8_1).toList)=false:=beq_eq_false_iff_ne.mpr c6
       have c6b1:(a1.toList != (rdOf ByteArray.empty l0 x8_1).toList)=true:=bne_iff_ne.mpr c6
       have H':=Aside0.mk H
       clear H
       have p547:0≤(x8_1:Int):=of_decide_eq_true (by first|(with_reducible assumption)|assumption)
       have q547:x8_1 < (l0.length:Int):=of_decide_eq_true (by first|(with_reducible assumption)|assumption)
       obtain ⟨ad547,e547,hx547_0⟩:=Kd.at_string HR0.out x8_1 p547 q547
       cases e547
       replace p547:=eq_true p547
       replace q547:=eq_true q547
       go_wp2
       go_roundg k1
       case measure=>have:=HK1.out;omega
       case rel=>exact ⟨(wrap64 (x8_1+1)),(by first|rfl|(simp;done)|(simp [*];done)),H',⟨by have:=HK1.out;omega⟩,by repeat (first|exact Drawn0.refl _|apply Drawn0.step)⟩
     ·rw [if_neg c5] at H
      exact absurd H (by simp)
    ·rw [if_neg c4] at H
     exact absurd H (by simp)
   ·rw [if_neg c3] at H
    have c3b0:decide (x8_1 < (l0.length:Int))=false:=decide_eq_false c3
    clear c3
    obtain rfl:=Option.some.inj H
    go_wp2
    go_ret
    exact ⟨by first|rfl|(simp;done)|(simp [*];done),by repeat (first|exact Drawn0.refl _|apply Drawn0.step)⟩
end Go.Proofs.Ytoihiehoolehiaa.PX
namespace Go.Proofs.Ytoihiehoolehiaa.PX
open Go.RowKit Go.Proofs.YtoihiehoolehiaaW.PrintWords Go.Proofs.YtoihiehoolehiaaW.PrintLast Go.Proofs.YtoihiehoolehiaaW.PrintMore
attribute [local go_sem] max2_int min2_int max_two min_two max_three min_three max_four min_four   
set_option linter.unusedVariables false
set_option linter.unusedSimpArgs false
attribute [local go_sem] run_field_87_0
def slices_Contains_string_string.f (k:Nat) (l0:List ByteArray) (a1:ByteArray):Option (Bool):=(slices_Index_string_string.f k l0 a1).bind fun t548=>(some (decide (t548 ≥ 0)))
theorem slices_Contains_string_string.mono:∀ a0 a1 k,LeO (slices_Contains_string_string.f k a0 a1) (slices_Contains_string_string.f (k+1) a0 a1):=by
 intro a0 a1 k
 unfold slices_Contains_string_string.f
 repeat' first
   | (with_reducible exact slices_Index_string_string.mono _ _ _)
   | (with_reducible exact LeO.refl _)
   | (with_reducible exact LeO.none _)
   | (with_reducible refine LeO.ite ?_ ?_)
   | (with_reducible refine LeO.bind ?_ (fun _=>?_))
   | exact slices_Index_string_string.mono _ _ _
   | exact LeO.none _
   | refine LeO.ite ?_ ?_
   | refine LeO.bind ?_ (fun _=>?_)
set_option maxHeartbeats 8000000 in
set_option maxRecDepth 100000 in
theorem slices_Contains_string_string.calls (k:Nat) (A0:Option Addr) (c0:Nat) (l0:List ByteArray) (a1:ByteArray) (r:Bool) (w:World) (hr0:Kd.C Kd.string w A0 l0.length l0) (hc0:l0.length≤c0) (h:slices_Contains_string_string.f k l0 a1=some r) :
  Calls Try.prog 59 #[.slice A0 l0.length c0,.string a1] w fun e w'=>e=.returned (.bool r)∧Drawn0 w w':=by
 have HR0:=Aside0.mk hr0
 have HC0:=Aside0.mk hc0
 clear hr0 hc0
 have H:((slices_Index_string_string.f k l0 a1).bind fun t548=>(some (decide (t548 ≥ 0))))=some r:=h
 clear h
 replace H:=Option.bind_eq_some_iff.mp H
 obtain ⟨t548,A30,H⟩:=H
 replace H:(some (decide (t548 ≥ 0)))=some r:=H
 have A3:=Aside0.mk A30
 clear A30
 obtain rfl:=Option.some.inj H
 go_enter Try.func59,Try.ntmps59
 go_wp2_with (first|((with_reducible refine gate_callee (f:=65) rfl ?_);refine goesL_ (some 7) rfl rfl Try.func65 (by kernel_rfl) rfl #[.slice A0 l0.length c0,.string a1] rfl (by (try simp only [List.map_toArray,List.map_cons,List.map_nil]);first|done|rfl|(simp only [List.length_drop,List.length_take];rfl)) ?_;(with_reducible refine (slices_Index_string_string.calls k _ _ l0 a1 t548 _ ?side1 ?side2 A3.out).mono ?_);(case side1=>repeat (first|exact HR0.out|(with_reducible refine cA_ ?_ _)|(with_reducible refine cN_ ?_ _)|(with_reducible refine cD_ ?_)));(case side2=>exact HC0.out);rintro e w' ⟨rfl,⟨nd,rfl⟩⟩;refine ⟨_,rfl,?_⟩))
 go_ret
 exact ⟨by first|rfl|(simp;done)|(simp [*];done),by repeat (first|exact Drawn0.refl _|apply Drawn0.step)⟩
end Go.Proofs.Ytoihiehoolehiaa.PX
namespace Go.Proofs.Ytoihiehoolehiaa.PX
open Go.RowKit Go.Proofs.YtoihiehoolehiaaW.PrintWords Go.Proofs.YtoihiehoolehiaaW.PrintLast Go.Proofs.YtoihiehoolehiaaW.PrintMore
attribute [local go_sem] max2_int min2_int max_two min_two max_three min_three max_four min_four   
set_option linter.unusedVariables false
set_option linter.unusedSimpArgs false
attribute [local go_sem] run_field_87_0
def names_Has.f (k:Nat) (a0_0:Bool) (l0_1:List ByteArray) (a1:ByteArray):Option (Bool):=(slices_Contains_string_string.f k l0_1 a1).bind fun t550=>(some (t550 != a0_0))
theorem names_Has.mono:∀ a0 a1 a2 k,LeO (names_Has.f k a0 a1 a2) (names_Has.f (k+1) a0 a1 a2):=by
 intro a0 a1 a2 k
 unfold names_Has.f
 repeat' first
   | (with_reducible exact slices_Contains_string_string.mono _ _ _)
   | (with_reducible exact LeO.refl _)
   | (with_reducible exact LeO.none _)
   | (with_reducible refine LeO.ite ?_ ?_)
   | (with_reducible refine LeO.bind ?_ (fun _=>?_))
   | exact slices_Contains_string_string.mono _ _ _
   | exact LeO.none _
   | refine LeO.ite ?_ ?_
   | refine LeO.bind ?_ (fun _=>?_)
set_option maxHeartbeats 8000000 in
set_option maxRecDepth 100000 in
theorem names_Has.calls (k:Nat) (a0_0:Bool) (A0_1:Option Addr) (c0_1:Nat) (l0_1:List ByteArray) (a1:ByteArray) (r:Bool) (w:World) (hr0_1:Kd.C Kd.string w A0_1 l0_1.length l0_1) (hc0_1:l0_1.length≤c0_1) (h:names_Has.f k a0_0 l0_1 a1=some r) :
  Calls Try.prog 41 #[.agg #[.bool a0_0,.slice A0_1 l0_1.length c0_1],.string a1] w fun e w'=>e=.returned (.bool r)∧Below w.heap.size w w':=by
 have hu38:=Try.underlying38
 have HR0_1:=Aside0.mk hr0_1
 have HC0_1:=Aside0.mk hc0_1
 clear hr0_1 hc0_1
 have HB:=Aside0.mk (Below.refl w.heap.size w)
 have H:((slices_Contains_string_string.f k l0_1 a1).bind fun t550=>(some (t550 != a0_0)))=some r:=h
 clear h
 replace H:=Option.bind_eq_some_iff.mp H
 obtain ⟨t550,A30,H⟩:=H
 replace H:(some (t550 != a0_0))=some r:=H
 have A3:=Aside0.mk A30
 clear A30
 obtain rfl:=Option.some.inj H
 go_enter Try.func41,Try.ntmps41
 go_wp2_with (first|((with_reducible refine gate_dst (N:=2) rfl ?_);refine box_event ?hg (N:=2) ?hd (cs:=#[.bool a0_0,.slice A0_1 l0_1.length c0_1]) (t:=38) ?hr ?_;(case hd=>rfl);(case hg=>rfl);(case hr=>first|(go_simp;done)|(go_simp;rfl));intro gb549 hg w4 hbox hb;have n0_:=Aside0.mk (below_step (by repeat (first|(with_reducible first|exact HB.out|apply bA_|apply bN_|apply bD_)|exact HB.out)) hb);have n1_:=Aside0.mk (hbox);have n2_:=Aside0.mk ((by rw [hg];exact (below_size (by repeat (first|(with_reducible first|exact HB.out|apply bA_|apply bN_|apply bD_)|exact HB.out))):w.heap.size≤gb549));have n3_:=Aside0.mk ((by rw [hg];exact (below_size (by repeat (first|(with_reducible first|exact HB.out|apply bA_|apply bN_|apply bD_)|exact HB.out))):w.heap.size≤gb549));clear HB;have HB:=n0_;have BK549:=n1_;have GW549:=n2_;have GE549:=n3_;clear n0_ n1_ n2_ n3_;clear hb hbox hg;have hcz5_0:w4.cell? ⟨gb549,0,none⟩=some (.bool a0_0):=(blk_cell BK549.out 0).trans rfl;have hcz5_1:w4.cell? ⟨gb549,1,none⟩=some (.slice A0_1 l0_1.length c0_1):=(blk_cell BK549.out 1).trans rfl;have hfz5_0:=blk_frozen BK549.out 0;have hfz5_1:=blk_frozen BK549.out 1)|(go_at_call 59;(with_reducible refine (slices_Contains_string_string.calls k _ _ l0_1 a1 t550 _ ?side1 ?side2 A3.out).mono ?_);(case side1=>repeat (first|exact (Kd.C_below HR0_1.out HB.out)|(with_reducible refine cA_ ?_ _)|(with_reducible refine cN_ ?_ _)|(with_reducible refine cD_ ?_)));(case side2=>exact HC0_1.out);rintro e w' ⟨rfl,⟨nd,rfl⟩⟩;(try first|exact ⟨rfl,_,World.drewN_drewN _ _ _⟩|exact ⟨rfl,_,Eq.trans (World.drewN_drewN _ _ _) (congrArg (World.drewN _) (Nat.add_assoc _ _ _))⟩)))
 repeat (go_quiet (first|((with_reducible refine gate_dst (N:=2) rfl ?_);refine box_event ?hg (N:=2) ?hd (cs:=#[.bool a0_0,.slice A0_1 l0_1.length c0_1]) (t:=38) ?hr ?_;(case hd=>rfl);(case hg=>rfl);(case hr=>first|(go_simp;done)|(go_simp;rfl));intro gb549 hg w4 hbox hb;have n0_:=Aside0.mk (below_step (by repeat (first|(with_reducible first|exact HB.out|apply bA_|apply bN_|apply bD_)|exact HB.out)) hb);have n1_:=Aside0.mk (hbox);have n2_:=Aside0.mk ((by rw [hg];exact (below_size (by repeat (first|(with_reducible first|exact HB.out|apply bA_|apply bN_|apply bD_)|exact HB.out))):w.heap.size≤gb549));have n3_:=Aside0.mk ((by rw [hg];exact (below_size (by repeat (first|(with_reducible first|exact HB.out|apply bA_|apply bN_|apply bD_)|exact HB.out))):w.heap.size≤gb549));clear HB;have HB:=n0_;have BK549:=n1_;have GW549:=n2_;have GE549:=n3_;clear n0_ n1_ n2_ n3_;clear hb hbox hg;have hcz5_0:w4.cell? ⟨gb549,0,none⟩=some (.bool a0_0):=(blk_cell BK549.out 0).trans rfl;have hcz5_1:w4.cell? ⟨gb549,1,none⟩=some (.slice A0_1 l0_1.length c0_1):=(blk_cell BK549.out 1).trans rfl;have hfz5_0:=blk_frozen BK549.out 0;have hfz5_1:=blk_frozen BK549.out 1)|(go_at_call 59;(with_reducible refine (slices_Contains_string_string.calls k _ _ l0_1 a1 t550 _ ?side1 ?side2 A3.out).mono ?_);(case side1=>repeat (first|exact (Kd.C_below HR0_1.out HB.out)|(with_reducible refine cA_ ?_ _)|(with_reducible refine cN_ ?_ _)|(with_reducible refine cD_ ?_)));(case side2=>exact HC0_1.out);rintro e w' ⟨rfl,⟨nd,rfl⟩⟩;(try first|exact ⟨rfl,_,World.drewN_drewN _ _ _⟩|exact ⟨rfl,_,Eq.trans (World.drewN_drewN _ _ _) (congrArg (World.drewN _) (Nat.add_assoc _ _ _))⟩)));try go_wp2_with (first|((with_reducible refine gate_dst (N:=2) rfl ?_);refine box_event ?hg (N:=2) ?hd (cs:=#[.bool a0_0,.slice A0_1 l0_1.length c0_1]) (t:=38) ?hr ?_;(case hd=>rfl);(case hg=>rfl);(case hr=>first|(go_simp;done)|(go_simp;rfl));intro gb549 hg w4 hbox hb;have n0_:=Aside0.mk (below_step (by repeat (first|(with_reducible first|exact HB.out|apply bA_|apply bN_|apply bD_)|exact HB.out)) hb);have n1_:=Aside0.mk (hbox);have n2_:=Aside0.mk ((by rw [hg];exact (below_size (by repeat (first|(with_reducible first|exact HB.out|apply bA_|apply bN_|apply bD_)|exact HB.out))):w.heap.size≤gb549));have n3_:=Aside0.mk ((by rw [hg];exact (below_size (by repeat (first|(with_reducible first|exact HB.out|apply bA_|apply bN_|apply bD_)|exact HB.out))):w.heap.size≤gb549));clear HB;have HB:=n0_;have BK549:=n1_;have GW549:=n2_;have GE549:=n3_;clear n0_ n1_ n2_ n3_;clear hb hbox hg;have hcz5_0:w4.cell? ⟨gb549,0,none⟩=some (.bool a0_0):=(blk_cell BK549.out 0).trans rfl;have hcz5_1:w4.cell? ⟨gb549,1,none⟩=some (.slice A0_1 l0_1.length c0_1):=(blk_cell BK549.out 1).trans rfl;have hfz5_0:=blk_frozen BK549.out 0;have hfz5_1:=blk_frozen BK549.out 1)|(go_at_call 59;(with_reducible refine (slices_Contains_string_string.calls k _ _ l0_1 a1 t550 _ ?side1 ?side2 A3.out).mono ?_);(case side1=>repeat (first|exact (Kd.C_below HR0_1.out HB.out)|(with_reducible refine cA_ ?_ _)|(with_reducible refine cN_ ?_ _)|(with_reducible refine cD_ ?_)));(case side2=>exact HC0_1.out);rintro e w' ⟨rfl,⟨nd,rfl⟩⟩;(try first|exact ⟨rfl,_,World.drewN_drewN _ _ _⟩|exact ⟨rfl,_,Eq.trans (World.drewN_drewN _ _ _) (congrArg (World.drewN _) (Nat.add_assoc _ _ _))⟩))))
 go_ret
 exact ⟨by first|rfl|(simp [errW_none,errW_some] <;> rfl)|(simp [*,errW_none,errW_some] <;> rfl),by repeat (first|(with_reducible first|exact HB.out|apply bA_|apply bN_|apply bD_|refine below_set ?_ GE549.out)|exact HB.out)⟩
end Go.Proofs.Ytoihiehoolehiaa.PX
set_option linter.unusedVariables false
set_option linter.unusedSimpArgs false
namespace Go.Proofs.Ytoihiehoolehiaa.PX
open Go.RowKit Go.Proofs.YtoihiehoolehiaaW.PrintWords Go.Proofs.YtoihiehoolehiaaW.PrintLast Go.Proofs.YtoihiehoolehiaaW.PrintMore Go.Proofs.Ytoihiehoolehiaa
def hasL (l:List ByteArray) (a:ByteArray):Bool:=l.any fun y=>decide (y=a)
theorem hasL_iff (l:List ByteArray) (a:ByteArray):hasL l a=true ↔ a ∈ l:=by
 simp [hasL]
theorem index_ev (l:List ByteArray) (a:ByteArray) (hl:l.length≤1000000000000):∀ d i:Nat,l.length - i≤d→i≤l.length→∃ r:Int,Ev (fun k=>slices_Index_string_string.l0 k l a (l.length:Int) (i:Int)) r∧decide (r ≥ 0)=hasL (l.drop i) a
 | d,i,hd,hi=>by
  by_cases h:i < l.length
  ·have e:∀ k,slices_Index_string_string.l0 (k+1) l a (l.length:Int) (i:Int)=if l[i]=a then some (i:Int) else slices_Index_string_string.l0 k l a (l.length:Int) ((i+1:Nat):Int):=by
    intro k
    simp only [slices_Index_string_string.l0]
    rw [if_pos (by omega),if_pos (by omega),if_pos (by omega),rdOf_nat h,wrap_succ (by omega)]
    by_cases ha:l[i]=a
    ·rw [if_pos (by rw [ha]),if_pos ha]
    ·rw [if_neg (fun x=>ha (tl_inj (by rw [toList_tl,toList_tl] at x;exact x.symm))),if_neg ha]
   have hdrop:l.drop i=l[i] :: l.drop (i+1):=List.drop_eq_getElem_cons h
   by_cases ha:l[i]=a
   ·refine ⟨(i:Int),Ev.step (fun k=>(e k).trans (if_pos ha)) (Ev.now _),?_⟩
    rw [hdrop]
    simp [hasL,ha]
   ·cases d with
    | zero=>omega
    | succ d =>
     obtain ⟨r,h1,h2⟩:=index_ev l a hl d (i+1) (by omega) (by omega)
     refine ⟨r,Ev.step (fun k=>(e k).trans (if_neg ha)) h1,?_⟩
     rw [h2,hdrop,hasL,hasL,List.any_cons,decide_eq_false ha,Bool.false_or]
  ·refine ⟨-1,Ev.step (f:=fun _=>some (-1)) (fun k=>?_) (Ev.now _),?_⟩
   ·simp only [slices_Index_string_string.l0]
    rw [if_neg (by omega)]
   ·rw [List.drop_of_length_le (by omega)]
    rfl
theorem has_ev (b:Bool) (l:List ByteArray) (a:ByteArray) (hl:l.length≤1000000000000):Ev (fun k=>names_Has.f k b l a) (hasL l a != b):=by
 obtain ⟨r,h1,h2⟩:=index_ev l a hl _ 0 (Nat.le_refl _) (Nat.zero_le _)
 obtain ⟨K,h1⟩:=h1
 refine ⟨K,fun k hk=>?_⟩
 have h1:slices_Index_string_string.l0 k l a (l.length:Int) 0=some r:=h1 k hk
 simp only [names_Has.f,slices_Contains_string_string.f,slices_Index_string_string.f]
 rw [h1]
 simp only [Option.bind_some]
 rw [h2]
 rfl
end Go.Proofs.Ytoihiehoolehiaa.PX
set_option linter.unusedVariables false
set_option linter.unusedSimpArgs false
namespace Go.Proofs.Ytoihiehoolehiaa.PX
open Go.RowKit Go.Proofs.YtoihiehoolehiaaW.PrintWords Go.Proofs.YtoihiehoolehiaaW.PrintLast Go.Proofs.YtoihiehoolehiaaW.PrintMore Go.Proofs.Ytoihiehoolehiaa Go.Shelf
abbrev Sc:=List S33
def hasS (x:S38) (a:ByteArray):Bool:=hasL x.f1 a != x.f0
def ScOk (s:Sc):Prop:=s.length≤1000000000000∧∀ d ∈ s,d.f0.length≤1000000000000∧∀ f ∈ d.f0,f.f0.f1.length≤1000000000000
instance (s:Sc):Decidable (ScOk s):=by unfold ScOk;exact inferInstance
def toN (l:List S40) (a:ByteArray):Int:=(l.find? fun f=>hasS f.f0 a).elim (-1) (·.f1)
def toM (s:Sc) (d:Int) (a:ByteArray):Int:=if d < 0∨(s.length:Int)≤d then -1 else toN (rd_T33 s d).f0 a
theorem toN_idx (l:List S40) (a:ByteArray):(∃ (i:Nat) (h:i < l.length),idxN (fun i=>(l[i]?).elim false fun f=>hasS f.f0 a) l.length=(i:Int)∧toN l a=(l[i]).f1)∨(idxN (fun i=>(l[i]?).elim false fun f=>hasS f.f0 a) l.length = -1∧toN l a = -1):=by
 rcases idxN_cases (fun i=>(l[i]?).elim false fun f=>hasS f.f0 a) l.length with ⟨i,h1,h2,h3,h4⟩|⟨h1,h2⟩
 ·refine .inl ⟨i,h1,h4,?_⟩
  have e:l.find? (fun f=>hasS f.f0 a)=some l[i]:=by
   rw [List.find?_eq_some_iff_getElem]
   refine ⟨by simpa [h1] using h2,i,h1,rfl,fun j hj=>?_⟩
   have:=h3 j hj
   rw [List.getElem?_eq_getElem (by omega)] at this
   simpa using this
  rw [toN,e]
  rfl
 ·refine .inr ⟨h2,?_⟩
  have e:l.find? (fun f=>hasS f.f0 a)=none:=by
   rw [List.find?_eq_none]
   intro x hx
   obtain ⟨j,hj,rfl⟩:=List.mem_iff_getElem.1 hx
   have:=h1 j hj
   rw [List.getElem?_eq_getElem hj] at this
   simpa using this
  rw [toN,e]
  rfl
set_option maxHeartbeats 4000000 in
set_option maxRecDepth 100000 in
theorem to_pred (a:ByteArray) (B:Nat) (f:S40) (W:World) (A1:Option Addr) (c1:Nat) (hB:W.cell? ⟨B,0,none⟩=some (.string a)) (hC:Kd.C Kd.string W A1 f.f0.f1.length f.f0.f1) (hc:f.f0.f1.length≤c1) (hl:f.f0.f1.length≤1000000000000) :
  Calls Try.prog 40 #[.agg #[.bool f.f0.f0,.slice A1 f.f0.f1.length c1,.int .i64 f.f1,.bool f.f2],.pointer (some ⟨B,0,none⟩)] W fun e w'=>e=.returned (.bool (hasS f.f0 a))∧Below W.heap.size W w':=by
 obtain ⟨k,hk⟩:=Ev.both (has_ev f.f0.f0 f.f0.f1 a hl)
 change names_Has.f k f.f0.f0 f.f0.f1 a=some (hasS f.f0 a) at hk
 have hu:=Try.underlying40
 have hu2:=Try.underlying38
 have hBl:=World.block_lt_of_cell? W _ hB
 have hB1:(W.alloc (.cells #[.bool f.f0.f0,.slice A1 f.f0.f1.length c1,.int .i64 f.f1,.bool f.f2] 40)).cell? ⟨B,0,none⟩=some (.string a):=Lib.cell?_alloc_some _ hB
 have hcall:=names_Has.calls k f.f0.f0 A1 c1 f.f0.f1 a _ (W.alloc (.cells #[.bool f.f0.f0,.slice A1 f.f0.f1.length c1,.int .i64 f.f1,.bool f.f2] 40)) (Kd.C_alloc hC _) hc hk
 clear hk hC
 generalize hasS f.f0 a=r at hcall ⊢
 generalize f.f0.f0=y0 at hB1 hcall ⊢
 generalize f.f0.f1.length=m at hB1 hcall ⊢
 generalize f.f1=y1 at hB1 hcall ⊢
 generalize f.f2=y2 at hB1 hcall ⊢
 clear hc hl hB
 go_enter Try.func40,Try.ntmps40
 go_wp2_with (go_at_call 41;refine hcall.mono ?_;rintro e w' ⟨rfl,hb'⟩)
 go_ret
 exact ⟨rfl,below_then (below_alloc (Below.refl _ _) _) (by simp) hb'⟩
def schema_To.f (l0:Sc) (a1:Int) (a2:ByteArray):Option Int:=if ScOk l0 then some (toM l0 a1 a2) else none
theorem rdD_mem {s:Sc} {d:Int} (h0:0≤d) (h1:d < s.length):rd_T33 s d ∈ s:=by
 have h:d.toNat < s.length:=by omega
 rw [show rd_T33 s d=s[d.toNat] by simp [rd_T33,List.getD_eq_getElem?_getD,h]]
 exact List.getElem_mem h
theorem rdF_nat {l:List S40} {i:Nat} (h:i < l.length):rd_T40 l (i:Int)=l[i]:=by simp [rd_T40,List.getD_eq_getElem?_getD,h]
set_option maxHeartbeats 8000000 in
set_option maxRecDepth 100000 in
theorem schema_To.calls (A0:Option Addr) (c0:Nat) (l0:List S33) (a1:Int) (a2:ByteArray) (r:Int) (w:World) (hr0:Kd.C k33 w A0 l0.length l0) (hc0:l0.length≤c0) (h:schema_To.f l0 a1 a2=some r) :
  Calls Try.prog 20 #[.slice A0 l0.length c0,.int .i64 a1,.string a2] w fun e w'=>e=.returned (.int .i64 r)∧Below w.heap.size w w':=by
 unfold schema_To.f at h
 split at h
 case isFalse=>cases h
 rename_i hok
 obtain rfl:=Option.some.inj h
 clear h
 have hu:=Try.underlying33
 have hu2:=Try.underlying40
 by_cases h1:a1 < 0
 ·rw [toM,if_pos (.inl h1)]
  clear hr0 hok hc0
  generalize l0.length=n
  go_enter Try.func20,Try.ntmps20
  go_wp2
  go_ret
  exact ⟨rfl,below_alloc (Below.refl _ _) _⟩
 by_cases h2:a1 < (l0.length:Int)
 ·rw [toM,if_neg (by omega)]
  have hm:=rdD_mem (by omega) h2
  obtain ⟨hs1,hs2⟩:=hok
  obtain ⟨hf1,hf2⟩:=hs2 _ hm
  clear hs2 hm hc0
  obtain ⟨ad,A1,c1,rfl,hx0,_,_,hx3,hx4⟩:=at_T33 hr0 a1 (by omega) h2
  clear hr0
  generalize (rd_T33 l0 a1).f0=fs at hx0 hx3 hx4 hf1 hf2 ⊢
  generalize l0.length=n at h2 hs1 ⊢
  have eg:∀ args w,(callFunc 40 args).run Try.prog w=.ok (.enter 40 args) w:=enters_of Try.func40 (by kernel_rfl) rfl
  have hcon:=firstF 40 #[.pointer (some ⟨w.heap.size,0,none⟩)] eg A1 c1 fs (fun i=>(fs[i]?).elim false fun f=>hasS f.f0 a2) (w.alloc (.cells #[.string a2] 9)) (Kd.C_alloc hx4 _) hf1
   (fun i hi W B1 c2 hW hC hc=>by
    have hb0:(w.alloc (.cells #[.string a2] 9)).cell? ⟨w.heap.size,0,none⟩=some (.string a2):=by simp
    have hb:W.cell? ⟨w.heap.size,0,none⟩=some (.string a2):=(hW.cell (World.block_lt_of_cell? _ _ hb0)).trans hb0
    have:=to_pred a2 w.heap.size (fs[i]) W B1 c2 hb (Kd.C_below hC hW) hc (hf2 _ (List.getElem_mem hi))
    rw [List.getElem?_eq_getElem hi]
    exact this)
  have hx0':(w.alloc (.cells #[.string a2] 9)).cell? (ad.add (a1.toNat * 3))=_:=Lib.cell?_alloc_some _ hx0
  rcases toN_idx fs a2 with ⟨i,hi,e1,e2⟩|⟨e1,e2⟩
  ·rw [e1] at hcon
   rw [e2]
   obtain ⟨ad2,A3,c3,rfl,_,_,hy2,_,_,_⟩:=at_T40 hx4 (i:Int) (by omega) (by exact_mod_cast hi)
   rw [rdF_nat hi,Int.toNat_natCast] at hy2
   clear hx4 hx3 hf2 hx0 e1 e2
   generalize (fs[i]).f1=y at hy2 ⊢
   have hi':(i:Int) < (fs.length:Int):=by exact_mod_cast hi
   clear hi
   generalize fs.length=m at hx0' hcon hf1 hi'
   have HB:∀ w',Below (w.alloc (.cells #[.string a2] 9)).heap.size (w.alloc (.cells #[.string a2] 9)) w'→w'.cell? ⟨(ad2.add (i * 4)).block,(ad2.add (i * 4)).off+2,none⟩=some (.int .i64 y):=fun w' hb=>by
    have:=Lib.cell?_alloc_some (.cells #[.string a2] 9) hy2
    exact (hb.cell (World.block_lt_of_cell? _ _ this)).trans this
   have HB':=Aside0.mk HB
   clear HB hy2
   go_enter Try.func20,Try.ntmps20
   go_wp2_with (go_at_call 39;refine hcon.mono ?_;rintro e w' ⟨rfl,hb'⟩;have hy:=HB'.out w' hb')
   go_ret
   exact ⟨rfl,below_then (below_alloc (Below.refl _ _) _) (by simp) hb'⟩
  ·rw [e1] at hcon
   rw [e2]
   clear hx4 hx3 hf2 hx0 e1 e2
   generalize fs.length=m at hx0' hcon hf1
   go_enter Try.func20,Try.ntmps20
   go_wp2_with (go_at_call 39;refine hcon.mono ?_;rintro e w' ⟨rfl,hb'⟩)
   go_ret
   exact ⟨rfl,below_then (below_alloc (Below.refl _ _) _) (by simp) hb'⟩
 ·rw [toM,if_pos (.inr (by omega))]
  clear hr0 hok hc0
  generalize l0.length=n at h2 ⊢
  go_enter Try.func20,Try.ntmps20
  go_wp2
  go_ret
  exact ⟨rfl,below_alloc (Below.refl _ _) _⟩
end Go.Proofs.Ytoihiehoolehiaa.PX
set_option linter.unusedVariables false
set_option linter.unusedSimpArgs false
namespace Go.Proofs.Ytoihiehoolehiaa.PX
open Go.RowKit Go.Proofs.YtoihiehoolehiaaW.PrintWords Go.Proofs.YtoihiehoolehiaaW.PrintLast Go.Proofs.YtoihiehoolehiaaW.PrintMore Go.Proofs.Ytoihiehoolehiaa Go.Shelf
theorem anyN_list {α:Type} (l:List α) (q:α→Bool):anyN (fun i=>(l[i]?).elim false q) l.length=l.any q:=by
 rw [anyN_eq,Bool.eq_iff_iff,List.any_eq_true,List.any_eq_true]
 constructor
 ·rintro ⟨i,hi,h⟩
  have hi:=List.mem_range.1 hi
  rw [List.getElem?_eq_getElem hi] at h
  exact ⟨l[i],List.getElem_mem hi,h⟩
 ·rintro ⟨x,hx,h⟩
  obtain ⟨i,hi,rfl⟩:=List.mem_iff_getElem.1 hx
  exact ⟨i,List.mem_range.2 hi,by rw [List.getElem?_eq_getElem hi];exact h⟩
theorem cell_new (w:World) (o:Array Value) (t:TypeId) (B i:Nat) {v:Value} (hB:B=w.heap.size) (hv:o[i]? = some v):(w.alloc (.cells o t)).cell? ⟨B,i,none⟩=some v:=by
 subst hB
 rw [← hv]
 simp
def hasT (t:Tr) (n:ByteArray):Bool:=t.any fun x=>decide (x.f0=n)
def lacksM (t:Tr) (f:S40):Bool:=f.f2 && f.f0.f1.any fun n=>!hasT t n
set_option maxHeartbeats 4000000 in
set_option maxRecDepth 100000 in
theorem edge_pred (n:ByteArray) (B:Nat) (y:ByteArray) (A1:Option Addr) (m c1:Nat) (W:World) (hB:W.cell? ⟨B,0,none⟩=some (.string n)) :
  Calls Try.prog 54 #[.agg #[.string y,.slice A1 m c1],.pointer (some ⟨B,0,none⟩)] W fun e w'=>e=.returned (.bool (decide (y=n)))∧Below W.heap.size W w':=by
 have hu:=Try.underlying53
 have hB1:(W.alloc (.cells #[.string y,.slice A1 m c1] 53)).cell? ⟨B,0,none⟩=some (.string n):=Lib.cell?_alloc_some _ hB
 have hr:=Aside0.mk (same_eq y n)
 generalize decide (y=n)=r at hr ⊢
 have hBl:=World.block_lt_of_cell? W _ hB
 clear hB
 go_enter Try.func54,Try.ntmps54
 go_wp2
 go_ret
 refine ⟨?_,below_alloc (Below.refl _ _) _⟩
 rw [← hr.out]
 rfl
set_option maxHeartbeats 4000000 in
set_option maxRecDepth 100000 in
theorem there_pred (n:ByteArray) (B:Nat) (A:Option Addr) (c:Nat) (t:Tr) (W:World) (hB:W.cell? ⟨B,0,none⟩=some (.slice A t.length c)) (hC:Kd.C k53 W A t.length t) (hl:t.length≤1000000000000) :
  Calls Try.prog 53 #[.string n,.pointer (some ⟨B,0,none⟩)] W fun e w'=>e=.returned (.bool (hasT t n))∧Below W.heap.size W w':=by
 have eg:∀ args w,(callFunc 54 args).run Try.prog w=.ok (.enter 54 args) w:=enters_of Try.func54 (by kernel_rfl) rfl
 have hB1:(W.alloc (.cells #[.string n] 9)).cell? ⟨B,0,none⟩=_:=Lib.cell?_alloc_some _ hB
 have hcon:=anyE 54 #[.pointer (some ⟨W.heap.size,0,none⟩)] eg A c t (fun i=>(t[i]?).elim false fun x=>decide (x.f0=n)) (W.alloc (.cells #[.string n] 9)) (Kd.C_alloc hC _) hl
  (fun i hi W' B1 c2 hW hC hc=>by
   have hb0:(W.alloc (.cells #[.string n] 9)).cell? ⟨W.heap.size,0,none⟩=some (.string n):=by simp
   have hb:=(hW.cell (World.block_lt_of_cell? _ _ hb0)).trans hb0
   have:=edge_pred n W.heap.size (t[i]).f0 B1 (t[i]).f1.length c2 W' hb
   rw [List.getElem?_eq_getElem hi]
   exact this)
 rw [anyN_list] at hcon
 change Calls _ _ _ _ (fun e w'=>e=.returned (.bool (hasT t n))∧_) at hcon
 have hBl:=World.block_lt_of_cell? W _ hB
 clear hB hC
 generalize hasT t n=r at hcon ⊢
 generalize t.length=m at hB1 hcon hl
 go_enter Try.func53,Try.ntmps53
 go_wp2_with (go_at_call 36;refine hcon.mono ?_;rintro e w' ⟨rfl,hb'⟩)
 go_ret
 exact ⟨rfl,below_then (below_alloc (Below.refl _ _) _) (by simp) hb'⟩
set_option maxHeartbeats 4000000 in
set_option maxRecDepth 100000 in
theorem nowhere_pred (n:ByteArray) (B B2:Nat) (A:Option Addr) (c:Nat) (t:Tr) (W:World) (hB:W.cell? ⟨B,0,none⟩=some (.slice A t.length c)) (hB2:W.cell? ⟨B2,0,none⟩=some (.func (.func 53) #[] #[.pointer (some ⟨B,0,none⟩)])) (hC:Kd.C k53 W A t.length t) (hl:t.length≤1000000000000) :
  Calls Try.prog 56 #[.string n,.pointer (some ⟨B2,0,none⟩)] W fun e w'=>e=.returned (.bool (!hasT t n))∧Below W.heap.size W w':=by
 have hcon:=there_pred n B A c t W hB hC hl
 generalize hasT t n=r at hcon ⊢
 clear hB hC hl
 go_enter Try.func56,Try.ntmps56
 go_wp2_with (go_at_call 53;refine hcon.mono ?_;rintro e w' ⟨rfl,hb'⟩)
 go_ret
 exact ⟨rfl,hb'⟩
set_option maxHeartbeats 4000000 in
set_option maxRecDepth 100000 in
theorem lacks_calls (A0:Option Addr) (c0:Nat) (t:Tr) (f:S40) (A1:Option Addr) (c1:Nat) (w:World) (hT:Kd.C k53 w A0 t.length t) (hC:Kd.C Kd.string w A1 f.f0.f1.length f.f0.f1) (hc:f.f0.f1.length≤c1) (hl:t.length≤1000000000000) (hf:f.f0.f1.length≤1000000000000) :
  Calls Try.prog 33 #[.slice A0 t.length c0,.agg #[.bool f.f0.f0,.slice A1 f.f0.f1.length c1,.int .i64 f.f1,.bool f.f2]] w fun e w'=>e=.returned (.bool (lacksM t f))∧Below w.heap.size w w':=by
 have eg:∀ args w,(callFunc 56 args).run Try.prog w=.ok (.enter 56 args) w:=enters_of Try.func56 (by kernel_rfl) rfl
 have hcon:∀ W,Below w.heap.size w W→W.cell? ⟨w.heap.size,0,none⟩=some (.slice A0 t.length c0)→W.cell? ⟨w.heap.size+1+1,0,none⟩=some (.func (.func 53) #[] #[.pointer (some ⟨w.heap.size,0,none⟩)])→Calls Try.prog 55 #[.slice A1 f.f0.f1.length c1,.func (.func 56) #[] #[.pointer (some ⟨w.heap.size+1+1,0,none⟩)]] W fun e w'=>e=.returned (.bool (f.f0.f1.any fun n=>!hasT t n))∧Below W.heap.size W w':=fun W hW hb1 hb2=>by
  have:=anyS 56 #[.pointer (some ⟨w.heap.size+1+1,0,none⟩)] eg A1 c1 f.f0.f1 (fun i=>(f.f0.f1[i]?).elim false fun n=>!hasT t n) W (Kd.C_below hC hW) hf
   (fun i hi W' hW'=>by
    have h1:=(hW'.cell (World.block_lt_of_cell? _ _ hb1)).trans hb1
    have h2:=(hW'.cell (World.block_lt_of_cell? _ _ hb2)).trans hb2
    have:=nowhere_pred (f.f0.f1[i]) w.heap.size (w.heap.size+1+1) A0 c0 t W' h1 h2 (Kd.C_below (Kd.C_below hT hW) hW') hl
    rw [List.getElem?_eq_getElem hi]
    exact this)
  rw [anyN_list] at this
  exact this
 unfold lacksM
 generalize (f.f0.f1.any fun n=>!hasT t n)=r at hcon ⊢
 have HCON:=Aside0.mk hcon
 clear hcon hT hC
 have hu:=Try.underlying40
 have hu2:=Try.underlying38
 generalize f.f0.f0=y0 at *
 generalize f.f0.f1.length=m at *
 generalize f.f1=y1 at *
 generalize t.length=n at *
 cases hy:f.f2 with
 | false =>
  go_enter Try.func33,Try.ntmps33
  go_wp2
  go_ret
  exact ⟨rfl,below_alloc (below_alloc (below_alloc (Below.refl _ _) _) _) _⟩
 | true =>
  go_enter Try.func33,Try.ntmps33
  go_wp2_with (go_at_call 55;go_loud (refine (HCON.out _ ?s1 ?s2 ?s3).mono ?_;(case s1=>exact below_alloc (below_alloc (below_alloc (Below.refl _ _) _) _) _);(case s2=>exact Lib.cell?_alloc_some _ (Lib.cell?_alloc_some _ (cell_new _ _ _ _ _ rfl rfl)));(case s3=>exact cell_new _ _ _ _ _ (by simp) rfl);rintro e w' ⟨rfl,hb'⟩))
  go_ret
  exact ⟨rfl,below_then (below_alloc (below_alloc (below_alloc (Below.refl _ _) _) _) _) (by simp;omega) hb'⟩
end Go.Proofs.Ytoihiehoolehiaa.PX
set_option linter.unusedVariables false
set_option linter.unusedSimpArgs false
namespace Go.Proofs.Ytoihiehoolehiaa.PX
open Go.RowKit Go.Proofs.YtoihiehoolehiaaW.PrintWords Go.Proofs.YtoihiehoolehiaaW.PrintLast Go.Proofs.YtoihiehoolehiaaW.PrintMore Go.Proofs.Ytoihiehoolehiaa Go.Shelf
def levelM (s:Sc) (d:Int) (t:Tr):Bool :=
 if d < 0∨(s.length:Int)≤d then false
 else if ((rd_T33 s d).f1 && !decide (t.length=1)) || ((rd_T33 s d).f2 && decide (t.length=0)) then false
 else !((rd_T33 s d).f0.any (lacksM t)) && !(t.any fun x=>decide (toM s d x.f0 < 0))
set_option maxHeartbeats 4000000 in
set_option maxRecDepth 100000 in
theorem lacks_pred (B:Nat) (A0:Option Addr) (c0:Nat) (t:Tr) (f:S40) (A1:Option Addr) (c1:Nat) (w:World) (hB:w.cell? ⟨B,0,none⟩=some (.slice A0 t.length c0)) (hT:Kd.C k53 w A0 t.length t) (hC:Kd.C Kd.string w A1 f.f0.f1.length f.f0.f1) (hc:f.f0.f1.length≤c1) (hl:t.length≤1000000000000) (hf:f.f0.f1.length≤1000000000000) :
  Calls Try.prog 32 #[.agg #[.bool f.f0.f0,.slice A1 f.f0.f1.length c1,.int .i64 f.f1,.bool f.f2],.pointer (some ⟨B,0,none⟩)] w fun e w'=>e=.returned (.bool (lacksM t f))∧Below w.heap.size w w':=by
 have hcon:=lacks_calls A0 c0 t f A1 c1 (w.alloc (.cells #[.bool f.f0.f0,.slice A1 f.f0.f1.length c1,.int .i64 f.f1,.bool f.f2] 40)) (Kd.C_alloc hT _) (Kd.C_alloc hC _) hc hl hf
 have hB1:(w.alloc (.cells #[.bool f.f0.f0,.slice A1 f.f0.f1.length c1,.int .i64 f.f1,.bool f.f2] 40)).cell? ⟨B,0,none⟩=_:=Lib.cell?_alloc_some _ hB
 clear hT hC hB
 generalize lacksM t f=r at hcon ⊢
 generalize f.f0.f0=y0 at *
 generalize f.f0.f1.length=m at *
 generalize f.f1=y1 at *
 generalize f.f2=y2 at *
 generalize t.length=n at *
 have hu:=Try.underlying40
 have hu2:=Try.underlying38
 go_enter Try.func32,Try.ntmps32
 go_wp2_with (go_at_call 33;refine hcon.mono ?_;rintro e w' ⟨rfl,hb'⟩)
 go_ret
 exact ⟨rfl,below_then (below_alloc (Below.refl _ _) _) (by simp) hb'⟩
set_option maxHeartbeats 4000000 in
set_option maxRecDepth 100000 in
theorem none_pred (B B2:Nat) (A0:Option Addr) (c0:Nat) (s:Sc) (d:Int) (x:S53) (A1:Option Addr) (c1:Nat) (w:World) (hB:w.cell? ⟨B,0,none⟩=some (.slice A0 s.length c0)) (hB2:w.cell? ⟨B2,0,none⟩=some (.int .i64 d)) (hS:Kd.C k33 w A0 s.length s) (hc:s.length≤c0) (hok:ScOk s) :
  Calls Try.prog 34 #[.agg #[.string x.f0,.slice A1 x.f1.length c1],.pointer (some ⟨B,0,none⟩),.pointer (some ⟨B2,0,none⟩)] w fun e w'=>e=.returned (.bool (decide (toM s d x.f0 < 0)))∧Below w.heap.size w w':=by
 have hcon:=schema_To.calls A0 c0 s d x.f0 (toM s d x.f0) (w.alloc (.cells #[.string x.f0,.slice A1 x.f1.length c1] 53)) (Kd.C_alloc hS _) hc (by unfold schema_To.f;rw [if_pos hok])
 have hB1:(w.alloc (.cells #[.string x.f0,.slice A1 x.f1.length c1] 53)).cell? ⟨B,0,none⟩=_:=Lib.cell?_alloc_some _ hB
 have hB3:(w.alloc (.cells #[.string x.f0,.slice A1 x.f1.length c1] 53)).cell? ⟨B2,0,none⟩=_:=Lib.cell?_alloc_some _ hB2
 clear hS hB hB2 hok
 generalize toM s d x.f0=r at hcon ⊢
 generalize x.f0=y0 at *
 generalize x.f1.length=m at *
 generalize s.length=n at *
 have hu:=Try.underlying53
 go_enter Try.func34,Try.ntmps34
 go_wp2_with (go_at_call 20;refine hcon.mono ?_;rintro e w' ⟨rfl,hb'⟩)
 go_ret
 exact ⟨rfl,below_then (below_alloc (Below.refl _ _) _) (by simp) hb'⟩
def schema_Level.f (l0:Sc) (a1:Int) (l2:Tr):Option Bool:=if ScOk l0∧l2.length≤1000000000000 then some (levelM l0 a1 l2) else none
set_option maxHeartbeats 16000000 in
set_option maxRecDepth 100000 in
theorem schema_Level.calls (A0:Option Addr) (c0:Nat) (l0:List S33) (a1:Int) (A2:Option Addr) (c2:Nat) (l2:List S53) (r:Bool) (w:World) (hr0:Kd.C k33 w A0 l0.length l0) (hc0:l0.length≤c0) (hr2:Kd.C k53 w A2 l2.length l2) (hc2:l2.length≤c2) (h:schema_Level.f l0 a1 l2=some r) :
  Calls Try.prog 16 #[.slice A0 l0.length c0,.int .i64 a1,.slice A2 l2.length c2] w fun e w'=>e=.returned (.bool r)∧Below w.heap.size w w':=by
 unfold schema_Level.f at h
 split at h
 case isFalse=>cases h
 rename_i hok
 obtain ⟨hok,hl⟩:=hok
 obtain rfl:=Option.some.inj h
 clear h
 have hu:=Try.underlying33
 have hu2:=Try.underlying40
 by_cases h1:a1 < 0
 ·rw [levelM,if_pos (.inl h1)]
  clear hr0 hok hc0 hr2 hl hc2
  generalize l0.length=n
  generalize l2.length=m
  go_enter Try.func16,Try.ntmps16
  go_wp2
  go_ret
  exact ⟨rfl,below_alloc (below_alloc (below_alloc (Below.refl _ _) _) _) _⟩
 by_cases h2:a1 < (l0.length:Int)
 ·rw [levelM,if_neg (by omega)]
  have hm:=rdD_mem (by omega) h2
  obtain ⟨hf1,hf2⟩:=hok.2 _ hm
  clear hm
  obtain ⟨ad,A1,c1,e0,hx0,hx1,hx2,hx3,hx4⟩:=at_T33 hr0 a1 (by omega) h2
  have eg:∀ args w,(callFunc 32 args).run Try.prog w=.ok (.enter 32 args) w:=enters_of Try.func32 (by kernel_rfl) rfl
  have eg2:∀ args w,(callFunc 34 args).run Try.prog w=.ok (.enter 34 args) w:=enters_of Try.func34 (by kernel_rfl) rfl
  generalize (rd_T33 l0 a1).f0=fs at hx0 hx3 hx4 hf1 hf2 ⊢
  generalize (rd_T33 l0 a1).f1=one at hx1 ⊢
  generalize (rd_T33 l0 a1).f2=som at hx2 ⊢
  have HL1:Aside0 (∀ W,Below w.heap.size w W→W.cell? ⟨w.heap.size+1+1,0,none⟩=some (.slice A2 l2.length c2)→Calls Try.prog 35 #[.slice A1 fs.length c1,.func (.func 32) #[] #[.pointer (some ⟨w.heap.size+1+1,0,none⟩)]] W fun e w'=>e=.returned (.bool (fs.any (lacksM l2)))∧Below W.heap.size W w'∧w'.cell? ⟨w.heap.size+1+1,0,none⟩=some (.slice A2 l2.length c2)):=⟨fun W hW hb=>by
   have:=anyF 32 #[.pointer (some ⟨w.heap.size+1+1,0,none⟩)] eg A1 c1 fs (fun i=>(fs[i]?).elim false (lacksM l2)) W (Kd.C_below hx4 hW) hf1
    (fun i hi W' B1 c3 hW' hC hc=>by
     have hb1:=(hW'.cell (World.block_lt_of_cell? _ _ hb)).trans hb
     have:=lacks_pred (w.heap.size+1+1) A2 c2 l2 (fs[i]) B1 c3 W' hb1 (Kd.C_below (Kd.C_below hr2 hW) hW') (Kd.C_below hC hW') hc hl (hf2 _ (List.getElem_mem hi))
     rw [List.getElem?_eq_getElem hi]
     exact this)
   rw [anyN_list] at this
   exact this.mono fun e w' h=>⟨h.1,h.2,(h.2.cell (World.block_lt_of_cell? _ _ hb)).trans hb⟩⟩
  have HL2:Aside0 (∀ W W',Below w.heap.size w W→W.cell? ⟨w.heap.size,0,none⟩=some (.slice A0 l0.length c0)→W.cell? ⟨w.heap.size+1,0,none⟩=some (.int .i64 a1)→Below W.heap.size W W'→Calls Try.prog 36 #[.slice A2 l2.length c2,.func (.func 34) #[] #[.pointer (some ⟨w.heap.size,0,none⟩),.pointer (some ⟨w.heap.size+1,0,none⟩)]] W' fun e w'=>e=.returned (.bool (l2.any fun x=>decide (toM l0 a1 x.f0 < 0)))∧Below W'.heap.size W' w'):=⟨fun W W0 hW hba hbb hWW=>by
   have hba:=(hWW.cell (World.block_lt_of_cell? _ _ hba)).trans hba
   have hbb:=(hWW.cell (World.block_lt_of_cell? _ _ hbb)).trans hbb
   have hW:=below_then hW hW.size hWW
   have:=anyE 34 #[.pointer (some ⟨w.heap.size,0,none⟩),.pointer (some ⟨w.heap.size+1,0,none⟩)] eg2 A2 c2 l2 (fun i=>(l2[i]?).elim false fun x=>decide (toM l0 a1 x.f0 < 0)) W0 (Kd.C_below hr2 hW) hl
    (fun i hi W' B1 c3 hW' hC hc=>by
     have hb1:=(hW'.cell (World.block_lt_of_cell? _ _ hba)).trans hba
     have hb2:=(hW'.cell (World.block_lt_of_cell? _ _ hbb)).trans hbb
     have:=none_pred w.heap.size (w.heap.size+1) A0 c0 l0 a1 (l2[i]) B1 c3 W' hb1 hb2 (Kd.C_below (Kd.C_below hr0 hW) hW') hc0 hok
     rw [List.getElem?_eq_getElem hi]
     exact this)
   rw [anyN_list] at this
   exact this⟩
  clear hr0 hr2 hx4 hf2 hx3 hok hf1 hc0 eg eg2 hc2
  generalize fs.any (lacksM l2)=r1 at HL1 ⊢
  generalize (l2.any fun x=>decide (toM l0 a1 x.f0 < 0))=r2 at HL2 ⊢
  generalize fs.length=nf at hx0 HL1
  subst e0
  generalize l0.length=n0 at h2 HL2 ⊢
  generalize l2.length=n2 at hl HL1 HL2 ⊢
  have hx0':=Lib.cell?_alloc_some (.cells #[.slice A2 n2 c2] 46) (Lib.cell?_alloc_some (.cells #[.int .i64 a1] 3) (Lib.cell?_alloc_some (.cells #[.slice (some ad) n0 c0] 23) hx0))
  have hx1':=Lib.cell?_alloc_some (.cells #[.slice A2 n2 c2] 46) (Lib.cell?_alloc_some (.cells #[.int .i64 a1] 3) (Lib.cell?_alloc_some (.cells #[.slice (some ad) n0 c0] 23) hx1))
  have hx2':=Lib.cell?_alloc_some (.cells #[.slice A2 n2 c2] 46) (Lib.cell?_alloc_some (.cells #[.int .i64 a1] 3) (Lib.cell?_alloc_some (.cells #[.slice (some ad) n0 c0] 23) hx2))
  clear hx0 hx1 hx2
  have e1:((n2:Int) == 1)=decide (n2=1):=by rw [Bool.eq_iff_iff,beq_iff_eq,decide_eq_true_eq];omega
  have e2:((n2:Int) != 1) = !decide (n2=1):=by rw [bne,e1]
  have e3:((n2:Int) == 0)=decide (n2=0):=by rw [Bool.eq_iff_iff,beq_iff_eq,decide_eq_true_eq];omega
  generalize decide (n2=1)=q1 at e1 e2 ⊢
  generalize decide (n2=0)=q0 at e3 ⊢
  cases one <;> cases som <;> cases q1 <;> cases q0 <;> cases r1 <;> (
   go_enter Try.func16,Try.ntmps16
   go_wp2_with (first
    | (go_at_call 35;refine (HL1.out _ ?s1 ?s2).mono ?_;(case s1=>exact below_alloc (below_alloc (below_alloc (below_alloc (Below.refl _ _) _) _) _) _);(case s2=>exact Lib.cell?_alloc_some _ (cell_new _ _ _ _ _ (by simp) rfl));rintro e w' ⟨rfl,hb',hc'⟩)
    | (go_at_call 36;refine (HL2.out _ _ ?s1 ?s2 ?s3 hb').mono ?_;(case s1=>exact below_alloc (below_alloc (below_alloc (below_alloc (Below.refl _ _) _) _) _) _);(case s2=>exact Lib.cell?_alloc_some _ (Lib.cell?_alloc_some _ (Lib.cell?_alloc_some _ (cell_new _ _ _ _ _ rfl rfl))));(case s3=>exact Lib.cell?_alloc_some _ (Lib.cell?_alloc_some _ (cell_new _ _ _ _ _ (by simp) rfl)));rintro e w'' ⟨rfl,hb''⟩))
   go_ret
   first
    | exact ⟨rfl,below_alloc (below_alloc (below_alloc (below_alloc (Below.refl _ _) _) _) _) _⟩
    | exact ⟨rfl,below_then (below_alloc (below_alloc (below_alloc (below_alloc (Below.refl _ _) _) _) _) _) (by simp;omega) hb'⟩
    | exact ⟨rfl,below_then (below_then (below_alloc (below_alloc (below_alloc (below_alloc (Below.refl _ _) _) _) _) _) (by simp;omega) hb') (Nat.le_trans (by simp;omega) hb'.size) hb''⟩)
 ·rw [levelM,if_pos (.inr (by omega))]
  clear hr0 hok hc0 hr2 hl hc2
  generalize l0.length=n at h2 ⊢
  generalize l2.length=m
  go_enter Try.func16,Try.ntmps16
  go_wp2
  go_ret
  exact ⟨rfl,below_alloc (below_alloc (below_alloc (Below.refl _ _) _) _) _⟩
end Go.Proofs.Ytoihiehoolehiaa.PX
set_option linter.unusedVariables false
set_option linter.unusedSimpArgs false
namespace Go.Proofs.Ytoihiehoolehiaa.PX
open Go.RowKit Go.Proofs.YtoihiehoolehiaaW.PrintWords Go.Proofs.YtoihiehoolehiaaW.PrintLast Go.Proofs.YtoihiehoolehiaaW.PrintMore Go.Proofs.Ytoihiehoolehiaa Go.Shelf
def fitsT1:Bool × List (List Nat × List Nat):=(true,[([],[]),([],[]),([],[]),([],[]),([3],[3]),([1,2,4],[1,2,4]),([],[]),([6],[6]),([0,5,7,5],[0,5,7]),([8],[8]),([9,8,0,1,2,3,4,5,6,7,8,9],[9])])
def fitsB1:List Nat:=[0,0,0,0,8,30,0,64,255,511,1023]
theorem fits_tab:rtab .any (opsOf Try.f38 1)=fitsT1:=by kernel_rfl
theorem fits_bits:waitsOk fitsT1.2 fitsB1=true:=by kernel_rfl
set_option maxHeartbeats 8000000 in
set_option maxRecDepth 100000 in
theorem fits_pred (B B2:Nat) (A0:Option Addr) (c0:Nat) (s:Sc) (d:Int) (y:ByteArray) (A1:Option Addr) (m c1:Nat) (r:Bool) (W:World) (hB:W.cell? ⟨B,0,none⟩=some (.slice A0 s.length c0)) (hB2:W.cell? ⟨B2,0,none⟩=some (.int .i64 d)) (hS:Kd.C k33 W A0 s.length s) (hc:s.length≤c0) (hok:ScOk s)
  (hF:∀ W',Below W.heap.size W W'→Calls Try.prog 18 #[.slice A0 s.length c0,.int .i64 (toM s d y),.slice A1 m c1] W' fun e w'=>e=.returned (.bool r)∧Below W'.heap.size W' w') :
  Calls Try.prog 38 #[.agg #[.string y,.slice A1 m c1],.pointer (some ⟨B,0,none⟩),.pointer (some ⟨B2,0,none⟩)] W fun e w'=>e=.returned (.bool (!r))∧Below W.heap.size W w':=by
 have HT:Aside0 (∀ W',Below W.heap.size W W'→Calls Try.prog 20 #[.slice A0 s.length c0,.int .i64 d,.string y] W' fun e w'=>e=.returned (.int .i64 (toM s d y))∧Below W'.heap.size W' w'):=⟨fun W' hW=>schema_To.calls A0 c0 s d y (toM s d y) W' (Kd.C_below hS hW) hc (by unfold schema_To.f;rw [if_pos hok])⟩
 have HF:=Aside0.mk hF
 clear hF hS
 generalize toM s d y=d2 at HT HF
 generalize s.length=n at hB hc HT HF
 clear hok hc
 have hu:=Try.underlying53
 have hg1:Aside0 (∀ W',Below (W.alloc (.cells #[.string y,.slice A1 m c1] 53)).heap.size (W.alloc (.cells #[.string y,.slice A1 m c1] 53)) W'→W'.cell? ⟨B,0,none⟩=some (.slice A0 n c0)∧W'.cell? ⟨B2,0,none⟩=some (.int .i64 d)∧W'.cell? ⟨W.heap.size,0,none⟩=some (.string y)∧W'.cell? ⟨W.heap.size,1,none⟩=some (.slice A1 m c1)):=⟨fun W' h=>by
  have q1:=Lib.cell?_alloc_some (.cells #[.string y,.slice A1 m c1] 53) hB
  have q2:=Lib.cell?_alloc_some (.cells #[.string y,.slice A1 m c1] 53) hB2
  have q3:=cell_new W #[.string y,.slice A1 m c1] 53 W.heap.size 0 rfl rfl
  have q4:=cell_new W #[.string y,.slice A1 m c1] 53 W.heap.size 1 rfl rfl
  exact ⟨(h.cell (World.block_lt_of_cell? _ _ q1)).trans q1,(h.cell (World.block_lt_of_cell? _ _ q2)).trans q2,(h.cell (World.block_lt_of_cell? _ _ q3)).trans q3,(h.cell (World.block_lt_of_cell? _ _ q4)).trans q4⟩⟩
 clear hB hB2
 go_enter Try.func38,Try.ntmps38
 try go_wp2
 have HB0:=Aside0.mk (below_alloc (Below.refl W.heap.size W) (.cells #[.string y,.slice A1 m c1] 53))
 have HB1:=Aside0.mk (Below.refl (W.alloc (.cells #[.string y,.slice A1 m c1] 53)).heap.size (W.alloc (.cells #[.string y,.slice A1 m c1] 53)))
 generalize hw1:W.alloc (.cells #[.string y,.slice A1 m c1] 53)=W1 at HB0 HB1 hg1 ⊢
 clear hw1
 refine start_ (n:=11) (S:=fun w'=>w'.cell? ⟨B,0,none⟩=some (.slice A0 n c0)∧w'.cell? ⟨B2,0,none⟩=some (.int .i64 d)∧w'.cell? ⟨W.heap.size,0,none⟩=some (.string y)∧w'.cell? ⟨W.heap.size,1,none⟩=some (.slice A1 m c1)) (ds:=[]) #[false,false,false,false,false,false,false,false,false,false,false] (by kernel_rfl) rfl rfl (hg1.out _ (bD_ HB1.out)) (fun hHeld=>?_);refine with_tabW fits_tab fits_bits (fun HT_ HW_=>?_)
 have HB2:=Aside0.mk (bD_ HB1.out)
 have HB3:=Aside0.mk (bD_ HB0.out)
 generalize W1.drew=W2 at HB2 HB3 hHeld ⊢
 clear HB0 HB1
 refine pure_ (i:=3) (N:=some 8) (v:=?_) (a':=?_) #[false,false,false,true,false,false,false,false,false,false,false] rfl rfl (any_of HT_.out (by kernel_rfl)) (fun _ _ _ h=>h) (Or.inl ⟨by rfl,?_⟩) ?_ ?_
 rotate_left
 ·intro w'
  go_simp
  with_reducible rfl
 rotate_left
 ·simp only [Act.put,List.setIfInBounds_toArray,List.set_cons_zero,List.set_cons_succ,i64_w,i32_w]
  rfl
 refine pure_ (i:=6) (N:=some 11) (v:=?_) (a':=?_) #[false,false,false,true,false,false,true,false,false,false,false] rfl rfl (any_of HT_.out (by kernel_rfl)) (fun _ _ _ h=>h) (Or.inl ⟨by rfl,?_⟩) ?_ ?_
 rotate_left
 ·intro w'
  go_simp
  with_reducible rfl
 rotate_left
 ·simp only [Act.put,List.setIfInBounds_toArray,List.set_cons_zero,List.set_cons_succ,i64_w,i32_w]
  rfl
 refine take_ (i:=0) (N:=some 5) (v:=?_) (a':=?_) #[true,false,false,true,false,false,true,false,false,false,false] rfl rfl (take_ofW HT_.out HW_.out (by kernel_rfl)) (fun _ _ _ h=>h) (Or.inl ⟨by rfl,?_⟩) hHeld ?_ ?_
 rotate_left
 ·rintro w' ⟨s0,s1,s2,s3⟩
  go_simp
  with_reducible rfl
 rotate_left
 ·simp only [Act.put,List.setIfInBounds_toArray,List.set_cons_zero,List.set_cons_succ,i64_w,i32_w]
  rfl
 refine take_ (i:=1) (N:=some 6) (v:=?_) (a':=?_) #[true,true,false,true,false,false,true,false,false,false,false] rfl rfl (take_ofW HT_.out HW_.out (by kernel_rfl)) (fun _ _ _ h=>h) (Or.inl ⟨by rfl,?_⟩) hHeld ?_ ?_
 rotate_left
 ·rintro w' ⟨s0,s1,s2,s3⟩
  go_simp
  with_reducible rfl
 rotate_left
 ·simp only [Act.put,List.setIfInBounds_toArray,List.set_cons_zero,List.set_cons_succ,i64_w,i32_w]
  rfl
 refine take_ (i:=2) (N:=some 7) (v:=?_) (a':=?_) #[true,true,true,true,false,false,true,false,false,false,false] rfl rfl (take_ofW HT_.out HW_.out (by kernel_rfl)) (fun _ _ _ h=>h) (Or.inl ⟨by rfl,?_⟩) hHeld ?_ ?_
 rotate_left
 ·rintro w' ⟨s0,s1,s2,s3⟩
  go_simp
  with_reducible rfl
 rotate_left
 ·simp only [Act.put,List.setIfInBounds_toArray,List.set_cons_zero,List.set_cons_succ,i64_w,i32_w]
  rfl
 refine take_ (i:=4) (N:=some 9) (v:=?_) (a':=?_) #[true,true,true,true,true,false,true,false,false,false,false] rfl rfl (take_ofW HT_.out HW_.out (by kernel_rfl)) (fun _ _ _ h=>h) (Or.inl ⟨by rfl,?_⟩) hHeld ?_ ?_
 rotate_left
 ·rintro w' ⟨s0,s1,s2,s3⟩
  go_simp
  with_reducible rfl
 rotate_left
 ·simp only [Act.put,List.setIfInBounds_toArray,List.set_cons_zero,List.set_cons_succ,i64_w,i32_w]
  rfl
 refine take_ (i:=7) (N:=some 12) (v:=?_) (a':=?_) #[true,true,true,true,true,false,true,true,false,false,false] rfl rfl (take_ofW HT_.out HW_.out (by kernel_rfl)) (fun _ _ _ h=>h) (Or.inl ⟨by rfl,?_⟩) hHeld ?_ ?_
 rotate_left
 ·rintro w' ⟨s0,s1,s2,s3⟩
  go_simp
  with_reducible rfl
 rotate_left
 ·simp only [Act.put,List.setIfInBounds_toArray,List.set_cons_zero,List.set_cons_succ,i64_w,i32_w]
  rfl
 refine one_ (i:=5) (N:=some 10) #[true,true,true,true,true,true,true,true,false,false,false] rfl rfl (one_of HT_.out (by kernel_rfl)) (by decide) (fun K hK=>?_)
 refine goes_ Try.func20 (by kernel_rfl) rfl #[.slice A0 n c0,.int .i64 d,.string y] (by rfl) rfl rfl (by (try simp only [List.map_toArray,List.map_cons,List.map_nil]);first|done|rfl) ?_
 refine (HT.out _ HB3.out).mono ?_
 rintro e w3 ⟨rfl,hb⟩
 refine ⟨_,rfl,?_⟩
 have n0_:=Aside0.mk (below_then HB2.out HB2.out.size hb)
 have n1_:=Aside0.mk (below_then HB3.out HB3.out.size hb)
 clear HB2 HB3 hb
 have HB2:=n0_
 have HB3:=n1_
 clear n0_ n1_
 refine hK.out _ _ (hg1.out _ HB2.out) (fun hHeld=>?_)
 clear hK K
 refine norm_ (a':=?_) ?_ ?_
 rotate_left
 ·show Act.put _ (some 10) _=_
  simp only [Act.put,List.setIfInBounds_toArray,List.set_cons_zero,List.set_cons_succ,i64_w,i32_w]
  rfl
 refine one_ (i:=8) (N:=some 13) #[true,true,true,true,true,true,true,true,true,false,false] rfl rfl (one_of HT_.out (by kernel_rfl)) (by decide) (fun K hK=>?_)
 refine goes_ Try.func18 (by kernel_rfl) rfl #[.slice A0 n c0,.int .i64 d2,.slice A1 m c1] (by rfl) rfl rfl (by (try simp only [List.map_toArray,List.map_cons,List.map_nil]);first|done|rfl) ?_
 refine (HF.out _ HB3.out).mono ?_
 rintro e w3 ⟨rfl,hb⟩
 refine ⟨_,rfl,?_⟩
 have n0_:=Aside0.mk (below_then HB2.out HB2.out.size hb)
 have n1_:=Aside0.mk (below_then HB3.out HB3.out.size hb)
 clear HB2 HB3 hb
 have HB2:=n0_
 have HB3:=n1_
 clear n0_ n1_
 refine hK.out _ _ (hg1.out _ HB2.out) (fun hHeld=>?_)
 clear hK K
 refine norm_ (a':=?_) ?_ ?_
 rotate_left
 ·show Act.put _ (some 13) _=_
  simp only [Act.put,List.setIfInBounds_toArray,List.set_cons_zero,List.set_cons_succ,i64_w,i32_w]
  rfl
 refine pure_ (i:=9) (N:=some 14) (v:=?_) (a':=?_) #[true,true,true,true,true,true,true,true,true,true,false] rfl rfl (any_of HT_.out (by kernel_rfl)) (fun _ _ _ h=>h) (Or.inl ⟨by rfl,?_⟩) ?_ ?_
 rotate_left
 ·intro w'
  go_simp
  with_reducible rfl
 rotate_left
 ·simp only [Act.put,List.setIfInBounds_toArray,List.set_cons_zero,List.set_cons_succ,i64_w,i32_w]
  rfl
 refine pure_ (i:=10) (N:=some 4) (v:=?_) (a':=?_) #[true,true,true,true,true,true,true,true,true,true,true] rfl rfl (any_of HT_.out (by kernel_rfl)) (fun _ _ _ h=>h) (Or.inl ⟨by rfl,?_⟩) ?_ ?_
 rotate_left
 ·intro w'
  go_simp
  with_reducible rfl
 rotate_left
 ·simp only [Act.put,List.setIfInBounds_toArray,List.set_cons_zero,List.set_cons_succ,i64_w,i32_w]
  rfl
 refine done_ (done_of HT_.out (by kernel_rfl)) ?_
 try go_wp2
 go_ret
 exact ⟨rfl,HB3.out⟩
theorem all_att {α:Type} (l:List α) (f:α→Bool):(l.attach.all fun x=>f x.1)=l.all f:=by
 rw [Bool.eq_iff_iff,List.all_eq_true,List.all_eq_true]
 exact ⟨fun h x hx=>h ⟨x,hx⟩ (List.mem_attach _ _),fun h x _=>h x.1 x.2⟩
theorem kids_lt {t:Tr} {x:S53} (h:x ∈ t):SizeOf.sizeOf x.f1 < SizeOf.sizeOf t:=by
 have h1:=List.sizeOf_lt_of_mem h
 have h2:SizeOf.sizeOf x.f1 < SizeOf.sizeOf x:=by
  cases x
  simp [S53.f1]
  omega
 omega
def trOk (t:Tr):Bool:=decide (t.length≤1000000000000) && t.attach.all fun x=>trOk x.1.f1
termination_by SizeOf.sizeOf t
decreasing_by exact kids_lt x.2
def fitsM (s:Sc) (d:Int) (t:Tr):Bool:=levelM s d t && t.attach.all fun x=>fitsM s (toM s d x.1.f0) x.1.f1
termination_by SizeOf.sizeOf t
decreasing_by exact kids_lt x.2
theorem trOk_eq (t:Tr):trOk t=(decide (t.length≤1000000000000) && t.all fun x=>trOk x.f1):=by
 rw [trOk]
 congr 1
 exact all_att t fun x=>trOk x.f1
theorem fitsM_eq (s:Sc) (d:Int) (t:Tr):fitsM s d t=(levelM s d t && t.all fun x=>fitsM s (toM s d x.f0) x.f1):=by
 rw [fitsM]
 congr 1
 exact all_att t fun x=>fitsM s (toM s d x.f0) x.f1
set_option maxHeartbeats 8000000 in
set_option maxRecDepth 100000 in
theorem fits_calls (s:Sc) (hok:ScOk s):∀ (N:Nat) (t:Tr),SizeOf.sizeOf t≤N→trOk t=true→∀ (A0:Option Addr) (c0:Nat) (d:Int) (A2:Option Addr) (c2:Nat) (w:World),Kd.C k33 w A0 s.length s→s.length≤c0→Kd.C k53 w A2 t.length t→t.length≤c2 →
  Calls Try.prog 18 #[.slice A0 s.length c0,.int .i64 d,.slice A2 t.length c2] w fun e w'=>e=.returned (.bool (fitsM s d t))∧Below w.heap.size w w'
 | 0,t,hN,_=>by cases t <;> simp at hN
 | N+1,t,hN,ht=>by
  intro A0 c0 d A2 c2 w hS hc0 hT hc2
  rw [trOk_eq,Bool.and_eq_true,decide_eq_true_eq,List.all_eq_true] at ht
  have HL:Aside0 (∀ W,Below w.heap.size w W→Calls Try.prog 16 #[.slice A0 s.length c0,.int .i64 d,.slice A2 t.length c2] W fun e w'=>e=.returned (.bool (levelM s d t))∧Below W.heap.size W w'):=⟨fun W hW=>schema_Level.calls A0 c0 s d A2 c2 t _ W (Kd.C_below hS hW) hc0 (Kd.C_below hT hW) hc2 (by unfold schema_Level.f;rw [if_pos ⟨hok,ht.1⟩])⟩
  have eg:∀ args w,(callFunc 38 args).run Try.prog w=.ok (.enter 38 args) w:=enters_of Try.func38 (by kernel_rfl) rfl
  have HA:Aside0 (∀ W W',Below w.heap.size w W→W.cell? ⟨w.heap.size,0,none⟩=some (.slice A0 s.length c0)→W.cell? ⟨w.heap.size+1,0,none⟩=some (.int .i64 d)→Below W.heap.size W W'→Calls Try.prog 36 #[.slice A2 t.length c2,.func (.func 38) #[] #[.pointer (some ⟨w.heap.size,0,none⟩),.pointer (some ⟨w.heap.size+1,0,none⟩)]] W' fun e w'=>e=.returned (.bool (t.any fun x=>!fitsM s (toM s d x.f0) x.f1))∧Below W'.heap.size W' w'):=⟨fun W W0 hW hba hbb hWW=>by
   have hba:=(hWW.cell (World.block_lt_of_cell? _ _ hba)).trans hba
   have hbb:=(hWW.cell (World.block_lt_of_cell? _ _ hbb)).trans hbb
   have hW:=below_then hW hW.size hWW
   have:=anyE 38 #[.pointer (some ⟨w.heap.size,0,none⟩),.pointer (some ⟨w.heap.size+1,0,none⟩)] eg A2 c2 t (fun i=>(t[i]?).elim false fun x=>!fitsM s (toM s d x.f0) x.f1) W0 (Kd.C_below hT hW) ht.1
    (fun i hi W' B1 c3 hW' hC hc=>by
     have hb1:=(hW'.cell (World.block_lt_of_cell? _ _ hba)).trans hba
     have hb2:=(hW'.cell (World.block_lt_of_cell? _ _ hbb)).trans hbb
     have hm:=List.getElem_mem hi
     have hlt:=kids_lt hm
     have hS':=Kd.C_below (Kd.C_below hS hW) hW'
     have:=fits_pred w.heap.size (w.heap.size+1) A0 c0 s d (t[i]).f0 B1 (t[i]).f1.length c3 (fitsM s (toM s d (t[i]).f0) (t[i]).f1) W' hb1 hb2 hS' hc0 hok
      (fun W3 hW3=>fits_calls s hok N (t[i]).f1 (by omega) (ht.2 _ hm) A0 c0 _ B1 c3 W3 (Kd.C_below hS' hW3) hc0 (Kd.C_below (Kd.C_below hC hW') hW3) hc)
     rw [List.getElem?_eq_getElem hi]
     exact this)
   rw [anyN_list] at this
   exact this⟩
  rw [fitsM_eq]
  have hq:(t.all fun x=>fitsM s (toM s d x.f0) x.f1) = !(t.any fun x=>!fitsM s (toM s d x.f0) x.f1):=by
   rw [List.not_any_eq_all_not]
   simp
  rw [hq]
  clear hq ht eg hT hS hN hc0 hc2
  generalize (t.any fun x=>!fitsM s (toM s d x.f0) x.f1)=r at HA ⊢
  generalize levelM s d t=l at HL ⊢
  generalize s.length=n at HL HA ⊢
  generalize t.length=m at HL HA ⊢
  cases l with
  | false =>
   go_enter Try.func18,Try.ntmps18
   go_wp2_with (go_at_call 16;refine (HL.out _ ?s1).mono ?_;(case s1=>exact below_alloc (below_alloc (Below.refl _ _) _) _);rintro e w' ⟨rfl,hb'⟩)
   go_ret
   exact ⟨rfl,below_then (below_alloc (below_alloc (Below.refl _ _) _) _) (by simp;omega) hb'⟩
  | true =>
   go_enter Try.func18,Try.ntmps18
   go_wp2_with (first
    | (go_at_call 16;refine (HL.out _ ?s1).mono ?_;(case s1=>exact below_alloc (below_alloc (Below.refl _ _) _) _);rintro e w' ⟨rfl,hb'⟩)
    | (go_at_call 36;refine (HA.out _ _ ?s1 ?s2 ?s3 hb').mono ?_;(case s1=>exact below_alloc (below_alloc (Below.refl _ _) _) _);(case s2=>exact Lib.cell?_alloc_some _ (cell_new _ _ _ _ _ rfl rfl));(case s3=>exact cell_new _ _ _ _ _ (by simp) rfl);rintro e w'' ⟨rfl,hb''⟩))
   go_ret
   exact ⟨rfl,below_then (below_then (below_alloc (below_alloc (Below.refl _ _) _) _) (by simp;omega) hb') (Nat.le_trans (by simp;omega) hb'.size) hb''⟩
def schema_Fits.f (l0:Sc) (a1:Int) (l2:Tr):Option Bool:=if ScOk l0∧trOk l2=true then some (fitsM l0 a1 l2) else none
theorem schema_Fits.calls (A0:Option Addr) (c0:Nat) (l0:List S33) (a1:Int) (A2:Option Addr) (c2:Nat) (l2:List S53) (r:Bool) (w:World) (hr0:Kd.C k33 w A0 l0.length l0) (hc0:l0.length≤c0) (hr2:Kd.C k53 w A2 l2.length l2) (hc2:l2.length≤c2) (h:schema_Fits.f l0 a1 l2=some r) :
  Calls Try.prog 18 #[.slice A0 l0.length c0,.int .i64 a1,.slice A2 l2.length c2] w fun e w'=>e=.returned (.bool r)∧Below w.heap.size w w':=by
 unfold schema_Fits.f at h
 split at h
 case isFalse=>cases h
 rename_i hok
 obtain rfl:=Option.some.inj h
 exact fits_calls l0 hok.1 _ l2 (Nat.le_refl _) hok.2 A0 c0 a1 A2 c2 w hr0 hc0 hr2 hc2
end Go.Proofs.Ytoihiehoolehiaa.PX
set_option linter.unusedVariables false
namespace Go.Proofs.Ytoihiehoolehiaa.PX
open Go.RowKit Go.Proofs.YtoihiehoolehiaaW.PrintWords Go.Proofs.YtoihiehoolehiaaW.PrintLast Go.Proofs.YtoihiehoolehiaaW.PrintMore Go.Proofs.Ytoihiehoolehiaa
theorem rdD_nat {l:Sc} {i:Nat} (h:i < l.length):rd_T33 l (i:Int)=l[i]:=by simp [rd_T33,List.getD_eq_getElem?_getD,h]
theorem trOk_nil:trOk []=true:=by rw [trOk_eq];rfl
end Go.Proofs.Ytoihiehoolehiaa.PX
set_option linter.unusedVariables false
set_option linter.unusedSimpArgs false
namespace Go.Proofs.Ytoihiehoolehiaa
open Go.Lib
def ofL (L:List Str):List Str:=Lib.compact (L.mergeSort fun x y=>decide (x≤y))
theorem ofL_length_le (L:List Str):(ofL L).length≤L.length:=by
 have:=Lib.compact_length_le (L.mergeSort fun x y=>decide (x≤y))
 rw [List.length_mergeSort] at this
 exact this
theorem str_le_lt {x y z:Str} (h:x≤y) (h':y < z):x < z:=List.lt_of_le_of_lt h h'
theorem str_le_trans {x y z:Str} (h:x≤y) (h':y≤z):x≤z:=List.le_trans h h'
theorem str_lt_of {x y:Str} (h:x≤y) (hne:x≠y):x < y:=List.not_le.1 fun h'=>hne (List.le_antisymm h h')
theorem str_le_total (x y:Str):x≤y∨y≤x:=List.le_total x y
theorem str_le_of_lt {x y:Str} (h:x < y):x≤y:=List.le_of_lt h
theorem compact_upTo (zs:List Str):∀ m,m≤zs.length→(∀ x,x ∈ compactUpTo zs.toArray m ↔ x ∈ zs.take m) ∧
  (zs.Pairwise (·≤ ·)→(compactUpTo zs.toArray m).Pairwise (·< ·)∧∀ x ∈ compactUpTo zs.toArray m,∀ j (hj:j < zs.length),m≤j+1→x≤zs[j])
 | 0,_=>by simp [compactUpTo]
 | m+1,hm=>by
  obtain ⟨h1,h2⟩:=compact_upTo zs m (by omega)
  have hmz:m < zs.length:=by omega
  have e1:zs.toArray[m]! = zs[m]:=by simp [hmz]
  have et:zs.take (m+1)=zs.take m ++ [zs[m]]:=List.take_succ_eq_append_getElem hmz
  rw [compactUpTo_succ,et]
  by_cases hk:keeps zs.toArray m=true
  ·rw [if_pos hk,e1]
   refine ⟨fun x=>by rw [List.mem_append,List.mem_append,h1 x],fun hs=>?_⟩
   obtain ⟨h3,h4⟩:=h2 hs
   have hlt:∀ x ∈ compactUpTo zs.toArray m,x < zs[m]:=by
    intro x hx
    unfold keeps at hk
    rw [decide_eq_true_eq] at hk
    rcases Nat.eq_zero_or_pos m with h0|h0
    ·subst h0
     simp [compactUpTo] at hx
    ·rcases hk with h0'|hk
     ·omega
     ·have e2:zs.toArray[m - 1]! = zs[m - 1]:=by simp [show m - 1 < zs.length by omega]
      rw [e1,e2] at hk
      have h5:zs[m - 1]≤zs[m]:=List.pairwise_iff_getElem.1 hs (m - 1) m (by omega) hmz (by omega)
      exact str_le_lt (h4 x hx (m - 1) (by omega) (by omega)) (str_lt_of h5 (fun e=>hk e.symm))
   refine ⟨List.pairwise_append.2 ⟨h3,List.pairwise_singleton _ _,fun x hx y hy=>?_⟩,fun x hx j hj hmj=>?_⟩
   ·obtain rfl:=List.mem_singleton.1 hy
    exact hlt x hx
   ·have hle:zs[m]≤zs[j]:=by
     rcases Nat.eq_or_lt_of_le (show m≤j by omega) with e|hlt'
     ·subst e
      exact List.le_refl _
     ·exact List.pairwise_iff_getElem.1 hs m j hmz hj hlt'
    rcases List.mem_append.1 hx with hx|hx
    ·exact str_le_trans (str_le_of_lt (hlt x hx)) hle
    ·obtain rfl:=List.mem_singleton.1 hx
     exact hle
  ·rw [if_neg hk,List.append_nil]
   unfold keeps at hk
   simp only [decide_eq_true_eq,not_or,Decidable.not_not] at hk
   obtain ⟨hm0,hk⟩:=hk
   have e2:zs.toArray[m - 1]! = zs[m - 1]:=by simp [show m - 1 < zs.length by omega]
   rw [e1,e2] at hk
   refine ⟨fun x=>?_,fun hs=>?_⟩
   ·rw [h1 x,List.mem_append,List.mem_singleton]
    refine ⟨.inl,fun h=>?_⟩
    rcases h with h|rfl
    ·exact h
    ·rw [hk]
     exact List.mem_take_iff_getElem.2 ⟨m - 1,by omega,rfl⟩
   ·obtain ⟨h3,h4⟩:=h2 hs
    exact ⟨h3,fun x hx j hj hmj=>h4 x hx j hj (by omega)⟩
theorem ofL_mem {L:List Str} {x:Str} : x ∈ ofL L ↔ x ∈ L:=by
 unfold ofL compact
 rw [(compact_upTo _ _ (Nat.le_refl _)).1 x,List.take_length]
 exact List.mem_mergeSort
theorem ofL_sorted (L:List Str):(ofL L).Pairwise (·< ·):=by
 unfold ofL compact
 refine ((compact_upTo _ _ (Nat.le_refl _)).2 ?_).1
 have:=List.pairwise_mergeSort (le:=fun x y:Str=>decide (x≤y)) (fun a b c h h'=>by
  rw [decide_eq_true_eq] at *
  exact str_le_trans h h') (fun a b=>by
  rcases str_le_total a b with h|h <;> simp [h]) L
 exact this.imp fun h=>by simpa using h
end Go.Proofs.Ytoihiehoolehiaa
set_option linter.unusedVariables false
set_option linter.unusedSimpArgs false
namespace Go.Proofs.Ytoihiehoolehiaa
open Go.RowKit
def Row (w : World) (g : Nat) (t : TypeId) (xs : List Value) : Prop := w.heap[g]? = some (.cells xs.toArray t (0, 0))
section
variable {w w' : World} {g : Nat} {t : TypeId} {xs : List Value}
theorem Row.lt (h : Row w g t xs) : g < w.heap.size := (Array.getElem?_eq_some_iff.1 h).1
theorem Row.cell (h : Row w g t xs) (i : Nat) : w.cell? ⟨g, i, none⟩ = xs[i]? := by
  rw [cell_of_row w g i xs.toArray t (0, 0) h]; simp
end
def Own (w : World) (B : Nat) (e : TypeId) (k : Nat) (A : Option Addr) (n c : Nat) (xs : List Value) : Prop :=
  xs.length = n * k ∧ ((A = none ∧ n = 0 ∧ c = 0) ∨ ∃ g rest, A = some ⟨g, 0, none⟩ ∧ B ≤ g ∧ Row w g e (xs ++ rest) ∧ n ≤ c ∧ c ≤ maxLen ∧ (xs ++ rest).length = c * k)
def blkOf : Option Addr → Option Nat
  | some a => some a.block
  | none => none
section
variable {w w' : World} {B B' : Nat} {e : TypeId} {k : Nat} {A : Option Addr} {n c : Nat} {xs : List Value}
theorem Own.blk (h : Own w B e k A n c xs) : ∀ g, blkOf A = some g → B ≤ g ∧ g < w.heap.size := by
  intro g hg
  rcases h.2 with ⟨rfl, _⟩ | ⟨g', rest, rfl, hb, hr, _⟩
  · cases hg
  · injection hg with hg
    subst hg
    exact ⟨hb, hr.lt⟩
end
theorem only_refl (w : World) (g : Option Nat) : w.grownBy w g := ⟨rfl, rfl, rfl, Nat.le_refl _, fun _ _ _ => rfl⟩
end Go.Proofs.Ytoihiehoolehiaa
set_option linter.unusedVariables false
set_option linter.unusedSimpArgs false
namespace Go.Proofs.Ytoihiehoolehiaa
open Go.RowKit Go.Sort
theorem own_of_ownsRow {w : World} {B : Nat} {e : TypeId} {k n : Nat} {v : Value} {xs : List Value} (h : w.ownsRow B e k v n xs) : ∃ A c, v = .slice A n c ∧ Own w B e k A n c xs := by
  rcases h.2 with ⟨rfl, rfl⟩ | ⟨g, cap, cur, rfl, hb, hg, hn, hm, hs, ht⟩
  · exact ⟨none, 0, rfl, h.1, .inl ⟨rfl, rfl, rfl⟩⟩
  · refine ⟨_, cap, rfl, h.1, .inr ⟨g, cur.toList.drop (n * k), rfl, hb, ?_, hn, hm, ?_⟩⟩
    · unfold Row
      rw [← ht, List.take_append_drop]
      simpa using hg
    · rw [← ht, List.take_append_drop]
      simpa using hs
theorem ownsRow_of_own {w : World} {B : Nat} {e : TypeId} {k n c : Nat} {A : Option Addr} {xs : List Value} (h : Own w B e k A n c xs) : w.ownsRow B e k (.slice A n c) n xs := by
  refine ⟨h.1, ?_⟩
  rcases h.2 with ⟨rfl, rfl, rfl⟩ | ⟨g, rest, rfl, hb, hr, hn, hm, hl⟩
  · exact .inl ⟨rfl, rfl⟩
  · refine .inr ⟨g, c, _, rfl, hb, hr, hn, hm, by simpa using hl, ?_⟩
    rw [← h.1]
    simp
theorem sort_own (B : Nat) (A : Option Addr) (n c : Nat) (L : List Str) (w : World) (ho : Own w B 9 1 A n c (L.map encStr)) (hl : n ≤ 1000000000000) :
    Calls Try.prog 67 #[.slice A n c] w fun e w' => e = .returned (.tuple #[]) ∧ Own w' B 9 1 A n c ((L.mergeSort fun x y => decide (x ≤ y)).map encStr) ∧ w.grownBy w' (blkOf A) := by
  have hn : L.length = n := by simpa using ho.1
  rcases ho.2 with ⟨rfl, rfl, rfl⟩ | ⟨g, rest, rfl, hb, hr, h1, h2, h3⟩
  · refine (Try.slices_Sort_string_none none 0 w).mono fun e w' ⟨he, hw⟩ => ?_
    subst hw
    have : L = [] := List.eq_nil_of_length_eq_zero hn
    subst this
    exact ⟨he, by simpa using ho, only_refl _ _⟩
  · obtain ⟨g', cap, hv, hbg, hgl, hnc, hcm, hlen, hH⟩ := Lib.holds_of_ownsRow (enc := encStr) (zs := L) (ownsRow_of_own ho) (by intro h; cases h)
    cases hv
    subst hn
    refine (Try.slices_Sort_string g 0 c L w hH hgl (by omega)).mono fun e w' ⟨he, nn, os, hw⟩ => ?_
    subst hw
    have hs := ownsRow_sorted (n := nn) (os := os) (ts := L.mergeSort fun x y => decide (x ≤ y)) (ss := L) (List.length_mergeSort L) hb hr h1 h2 (by simpa using h3)
    obtain ⟨A', c', e1, ho'⟩ := own_of_ownsRow hs
    cases e1
    exact ⟨he, ho', grownBy_sorted _⟩
theorem compact_own (B : Nat) (A : Option Addr) (n c : Nat) (L : List Str) (w : World) (ho : Own w B 9 1 A n c (L.map encStr)) (hl : n ≤ 1000000000000) :
    Calls Try.prog 68 #[.slice A n c] w fun e w' => ∃ n', e = .returned (.slice A n' c) ∧ Own w' B 9 1 A n' c ((Lib.compact L).map encStr) ∧ n' ≤ n ∧ w.grownBy w' (blkOf A) := by
  have hn : L.length = n := by simpa using ho.1
  rcases ho.2 with ⟨rfl, rfl, rfl⟩ | ⟨g, rest, rfl, hb, hr, h1, h2, h3⟩
  · refine (Try.slices_Compact_string_empty none 0 w).mono fun e w' ⟨he, hw⟩ => ?_
    subst hw
    have : L = [] := List.eq_nil_of_length_eq_zero hn
    subst this
    exact ⟨0, he, by simpa [Lib.compact, Lib.compactUpTo] using ho, Nat.le_refl _, only_refl _ _⟩
  · obtain ⟨g', cap, hv, hbg, hgl, hnc, hcm, hlen, hH⟩ := Lib.holds_of_ownsRow (enc := encStr) (zs := L) (ownsRow_of_own ho) (by intro h; cases h)
    cases hv
    subst hn
    have hle := Lib.compact_length_le L
    refine (Try.slices_Compact_string g 0 c L w hH (by omega) h1).mono fun e w' ⟨he, q, hw⟩ => ?_
    subst hw
    have hc := Lib.ownsRow_putRow (q := q) (k := (Lib.compact L).length) (ys := Lib.compact L ++ List.replicate (L.length - (Lib.compact L).length) []) (ownsRow_of_own ho) (by simp; omega) (by omega)
    rw [List.take_left] at hc
    obtain ⟨A', c', e1, ho'⟩ := own_of_ownsRow hc
    cases e1
    exact ⟨_, he, ho', hle, by have := grownBy_sorted (w := w) (g := g) (n := q) (os := #[]) (Lib.compact L ++ List.replicate (L.length - (Lib.compact L).length) []).toArray; rw [grow_empty] at this; exact this⟩
end Go.Proofs.Ytoihiehoolehiaa
set_option linter.unusedVariables false
namespace Go.Proofs.Ytoihiehoolehiaa.PX
open Go.RowKit Go.Proofs.YtoihiehoolehiaaW.PrintWords Go.Proofs.YtoihiehoolehiaaW.PrintLast Go.Proofs.YtoihiehoolehiaaW.PrintMore Go.Proofs.Ytoihiehoolehiaa
theorem map_ba (L:List Str):(L.map ba).map Value.string=L.map encStr:=by simp [ba]
theorem encs_enc (l:List ByteArray):encs Value.string l=(l.map tl).map encStr:=by
 rw [← map_ba,map_ba_tl];rfl
theorem enc_encs (l:List Str):l.map encStr=encs Value.string (l.map ba):=(map_ba l).symm
def sortB (l:List ByteArray):List ByteArray:=((l.map tl).mergeSort fun x y=>decide (x≤y)).map ba
def compactB (l:List ByteArray):List ByteArray:=(Lib.compact (l.map tl)).map ba
theorem sortB_length (l:List ByteArray):(sortB l).length=l.length:=by simp [sortB,List.length_mergeSort]
theorem R_of_Own {w:World} {B:Nat} {A:Option Addr} {n c:Nat} {L:List Str} {ok:Nat→Prop} (h:Own w B 9 1 A n c (L.map encStr)) (hok:∀ k,(Value.slice A n c).ownBlock=some k→ok k):Kd.R Kd.string 9 w B ok (.slice A n c) (L.map ba):=by
 have hn:L.length=n:=by simpa using h.1
 refine Kd.R_of_own ?_ hok
 have:=ownsRow_of_own h
 rw [enc_encs] at this
 rw [List.length_map,hn]
 exact this
theorem Own_of_R {w:World} {B:Nat} {A:Option Addr} {n c:Nat} {l:List ByteArray} {ok:Nat→Prop} (h:Kd.R Kd.string 9 w B ok (.slice A n c) l):n=l.length∧Own w B 9 1 A l.length c ((l.map tl).map encStr):=by
 have hn:=(Kd.R_reads' h).1
 subst hn
 have ho:=Kd.own_of_R h
 rw [encs_enc] at ho
 obtain ⟨A',c',e1,ho'⟩:=own_of_ownsRow ho
 cases e1
 exact ⟨rfl,ho'⟩
theorem blk_own {A:Option Addr} {n c:Nat} {w:World} {B:Nat} {e:TypeId} {k:Nat} {xs:List Value} (h:Own w B e k A n c xs):blkOf A=(Value.slice A n c).ownBlock:=by
 rcases h.2 with ⟨rfl,_⟩|⟨g,rest,rfl,_⟩ <;> rfl
def slices_Sort_string_string.f (l0:List ByteArray):Option (List ByteArray):=if l0.length≤1000000000000 then some (sortB l0) else none
theorem slices_Sort_string_string.calls (P0_:Nat→Prop) (u9000_:Value) (l0:List ByteArray) (r:List ByteArray) (w0 w:World) (hB:Below w0.heap.size w0 w) (ho0:Kd.R Kd.string 9 w w0.heap.size P0_ u9000_ l0) (h:slices_Sort_string_string.f l0=some r) :
  Calls Try.prog 67 #[u9000_] w fun e w'=>e=.returned (.tuple #[])∧Kd.R Kd.string 9 w' w0.heap.size (fun k_=>(P0_ k_∨w.heap.size≤k_)) u9000_ r∧Below w0.heap.size w0 w'∧Kept w w' (fun k_=>P0_ k_):=by
 unfold slices_Sort_string_string.f at h
 split at h
 ·rename_i hl
  injection h with h
  subst h
  obtain ⟨A,c,rfl⟩:=Kd.R_slice ho0
  obtain ⟨_,ho⟩:=Own_of_R ho0
  have hblk:=blk_own ho
  have hbase:∀ k,blkOf A=some k→w0.heap.size≤k:=fun k hk=>(ho.blk k hk).1
  refine (sort_own _ A l0.length c (l0.map tl) w ho hl).mono fun e w' ⟨he,ho2,hg⟩=>⟨he,?_,pw_below_grown hB (blkOf A) hB.size hg hbase,Kept.of_grown hg (Kept.refl w _) (fun k hk=>.inl (ho0.1 k (hblk ▸ hk)))⟩
  exact R_of_Own ho2 (fun k hk=>.inl (ho0.1 k hk))
 ·cases h
def slices_Compact_string_string.f (l0:List ByteArray):Option (List ByteArray):=if l0.length≤1000000000000 then some (compactB l0) else none
theorem slices_Compact_string_string.calls (P0_:Nat→Prop) (u9000_:Value) (l0:List ByteArray) (r:List ByteArray) (w0 w:World) (hB:Below w0.heap.size w0 w) (ho0:Kd.R Kd.string 9 w w0.heap.size P0_ u9000_ l0) (h:slices_Compact_string_string.f l0=some r) :
  Calls Try.prog 68 #[u9000_] w fun e w'=>∃ v0_:Value,e=.returned (v0_)∧Kd.R Kd.string 9 w' w0.heap.size (fun k_=>(P0_ k_∨w.heap.size≤k_)) v0_ r∧Below w0.heap.size w0 w'∧Kept w w' (fun k_=>P0_ k_):=by
 unfold slices_Compact_string_string.f at h
 split at h
 ·rename_i hl
  injection h with h
  subst h
  obtain ⟨A,c,rfl⟩:=Kd.R_slice ho0
  obtain ⟨_,ho⟩:=Own_of_R ho0
  have hblk:=blk_own ho
  have hbase:∀ k,blkOf A=some k→w0.heap.size≤k:=fun k hk=>(ho.blk k hk).1
  refine (compact_own _ A l0.length c (l0.map tl) w ho hl).mono fun e w' ⟨n',he,ho2,hn2,hg⟩=>⟨_,he,?_,pw_below_grown hB (blkOf A) hB.size hg hbase,Kept.of_grown hg (Kept.refl w _) (fun k hk=>.inl (ho0.1 k (hblk ▸ hk)))⟩
  exact R_of_Own ho2 (fun k hk=>.inl (ho0.1 k (by rw [← hk,← blk_own ho2,hblk])))
 ·cases h
end Go.Proofs.Ytoihiehoolehiaa.PX
namespace Go.Proofs.Ytoihiehoolehiaa.PX
open Go.RowKit Go.Proofs.YtoihiehoolehiaaW.PrintWords Go.Proofs.YtoihiehoolehiaaW.PrintLast Go.Proofs.YtoihiehoolehiaaW.PrintMore
attribute [local go_sem] max2_int min2_int max_two min_two max_three min_three max_four min_four   
set_option linter.unusedVariables false
set_option linter.unusedSimpArgs false
attribute [local go_sem] run_field_87_0
def slices_Clone_string_string.f (l0:List ByteArray):Option (List ByteArray):=(some (([]:List ByteArray):List ByteArray)).bind fun y474=>(if y474.length+l0.length < 8796093022208 then (some (y474 ++ l0)) else (none))
set_option maxHeartbeats 8000000 in
set_option maxRecDepth 100000 in
theorem slices_Clone_string_string.calls (A0:Option Addr) (c0:Nat) (l0:List ByteArray) (r:List ByteArray) (w:World) (hr0:Kd.C Kd.string w A0 l0.length l0) (hc0:l0.length≤c0) (h:slices_Clone_string_string.f l0=some r) :
  Calls Try.prog 66 #[.slice A0 l0.length c0] w fun e w'=>∃ v0_:Value,e=.returned (v0_)∧Kd.R Kd.string 9 w' w.heap.size (fun _=>True) v0_ r∧Below w.heap.size w w':=by
 have q22:∀ (w:World) (a:Option Addr) (n c n' c':Nat),(binOp .eql 36 (.slice a n c) (.slice none n' c')).run Try.prog w=.ok (.bool a.isNone) w:=fun w a n c n' c'=>Lib.run_eql_slice_nil w _ _ a n c n' c' Try.underlying36
 by_cases hA0:A0=none
 ·have hl0:l0 = []:=by
   cases l0 with
   | nil=>rfl
   | cons x t_ =>
    obtain ⟨ad,e,_⟩:=(hr0).2.2 (by simp)
    exact absurd (hA0.symm.trans e) (by simp)
  subst hA0 hl0
  have hr_:r = []:=by simpa [slices_Clone_string_string.f] using h.symm
  subst hr_
  clear h
  go_enter Try.func66,Try.ntmps66
  go_wp2
  go_ret
  exact ⟨.slice none 0 0,rfl,by first|exact Kd.R_nil _ _ _ _ _|exact Kd.N_nil _ _ _ _ _|exact Kd.S_nil _ _ _ _ _,Below.refl _ _⟩
 have hA1:A0.isNone=false:=by cases A0 with
  | none=>exact absurd rfl hA0
  | some a=>rfl
 clear hA0
 have HR0:=Aside0.mk hr0
 have HC0:=Aside0.mk hc0
 clear hr0 hc0
 have HB:=Aside0.mk (Below.refl w.heap.size w)
 have H:((some (([]:List ByteArray):List ByteArray)).bind fun y474=>(if y474.length+l0.length < 8796093022208 then (some (y474 ++ l0)) else (none)))=some r:=h
 clear h
 obtain ⟨y474,hy474⟩:∃ y_:List ByteArray,y_=(([]:List ByteArray)):=⟨_,rfl⟩
 replace H:(if y474.length+l0.length < 8796093022208 then (some (y474 ++ l0)) else (none))=some r:=by first|(rw [hy474];with_reducible exact H)|(have H2_:=(Option.bind_some _ _).symm.trans H;rw [hy474];with_reducible exact H2_)|(have H2_:=(Option.bind_some _ _).symm.trans H;with_reducible exact H2_)|with_reducible exact H|(rw [hy474];exact H)|exact H
 have Ny474:=Aside0.mk hy474
 clear hy474
 by_cases c2:y474.length+l0.length < 8796093022208
 ·rw [if_pos c2] at H
  have LMc2:=Aside0.mk c2
  clear c2
  obtain ⟨y477,hy477⟩:∃ y_:List ByteArray,y_=(y474 ++ l0):=⟨_,rfl⟩
  replace H:(some y477)=some r:=by first|(rw [hy477];with_reducible exact H)|(have H2_:=(Option.bind_some _ _).symm.trans H;rw [hy477];with_reducible exact H2_)|(have H2_:=(Option.bind_some _ _).symm.trans H;with_reducible exact H2_)|with_reducible exact H|(rw [hy477];exact H)|exact H
  have Ny477:=Aside0.mk hy477
  clear hy477
  obtain rfl:=Option.some.inj H
  go_enter Try.func66,Try.ntmps66
  go_wp2_with (first|((with_reducible refine gate_dst (N:=5) rfl ?_);refine Kd.R_lit Kd.string _ 9 ?hg (N:=5) ?hd (xs:=([]:List ByteArray)) (inner:=[]) (ok:=fun _=>True) (okp:=fun _=>True) ?hr ?hp (fun _ hk=>hk) trivial (Below.refl _ _) (Nat.le_refl _) (by simp) ?_;(case hd=>rfl);(case hg=>rfl);(case hr=>first|(go_simp;done)|(go_simp;rfl));(case hp=>exact (Reps.none _ _));intro v475 w3 ho4 hb hg_ hnew_;clear hg_ hnew_;(first|rw [← Ny474.out] at ho4|(simp only [Int.reduceToNat] at ho4;rw [← Ny474.out] at ho4));have n0_:=Aside0.mk (Kd.R_lower ho4 (below_size (by repeat (first|(with_reducible first|exact HB.out|apply bA_|apply bN_|apply bD_)|exact HB.out))));have n1_:=Aside0.mk (below_step (by repeat (first|(with_reducible first|exact HB.out|apply bA_|apply bN_|apply bD_)|exact HB.out)) hb);clear HB;have HO476:=n0_;have HB:=n1_;clear n0_ n1_;clear hb ho4)|((with_reducible refine gate_builtin (b:=.append) (xs:=#[.tmp 5,.tmp 6]) rfl ?_);at_builtin;refine Kd.R_append_rows Kd.string (w0:=w) w.heap.size rfl (.tmp 5) (.tmp 6) 36 9 (.string ⟨#[]⟩) 16 rfl Try.underlying36 info9 rfl (by decide) (by omega) v475 y474 l0 _ _ _ (fun _=>True) (fun _=>False) rfl rfl ?aO ?aR (fun _ _ h=>h) (fun _ h=>h.elim) ?aF ?aB ?aS ?aL ?_;(case aR=>repeat (first|exact (Kd.C_below HR0.out HB.out)|(with_reducible refine cA_ ?_ _)|(with_reducible refine cN_ ?_ _)|(with_reducible refine cD_ ?_)));(case aB=>exact (by repeat (first|(with_reducible first|exact HB.out|apply bA_|apply bN_|apply bD_)|exact HB.out)));(case aF=>exact (fun _ _=>trivial));(case aO=>exact (by (with_reducible repeat (first|apply rA_|apply rN_|apply rD_));exact HO476.out));(case aS=>exact (below_size (by repeat (first|(with_reducible first|exact HB.out|apply bA_|apply bN_|apply bD_)|exact HB.out))));(case aL=>have:=LMc2.out;omega);intro v478 w5 ho hb hg hat;rw [← Ny477.out] at ho;have n0_:=Aside0.mk (hb);have n1_:=Aside0.mk (ho);clear HB;clear HO476;have HB:=n0_;have HO479:=n1_;clear n0_ n1_;clear ho hb hg hat))
  go_ret
  exact ⟨_,by first|rfl|(simp [errW_none,errW_some] <;> rfl)|(simp [*,errW_none,errW_some] <;> rfl),by (with_reducible repeat (first|apply rA_|apply rN_|apply rD_));exact HO479.out,by repeat (first|(with_reducible first|exact HB.out|apply bA_|apply bN_|apply bD_)|exact HB.out)⟩
 ·rw [if_neg c2] at H
  exact absurd H (by simp)
end Go.Proofs.Ytoihiehoolehiaa.PX
namespace Go.Proofs.Ytoihiehoolehiaa.PX
open Go.RowKit Go.Proofs.YtoihiehoolehiaaW.PrintWords Go.Proofs.YtoihiehoolehiaaW.PrintLast Go.Proofs.YtoihiehoolehiaaW.PrintMore
attribute [local go_sem] max2_int min2_int max_two min_two max_three min_three max_four min_four   
set_option linter.unusedVariables false
set_option linter.unusedSimpArgs false
attribute [local go_sem] run_field_87_0
def names_of_string.f (l0:List ByteArray):Option (List ByteArray):=(slices_Clone_string_string.f l0).bind fun t481=>((slices_Sort_string_string.f t481).bind fun t484=>((slices_Compact_string_string.f t484).bind fun t485=>((slices_Clone_string_string.f t485).bind fun t488=>(some t488))))
set_option maxHeartbeats 8000000 in
set_option maxRecDepth 100000 in
theorem names_of_string.calls (A0:Option Addr) (c0:Nat) (l0:List ByteArray) (r:List ByteArray) (w:World) (hr0:Kd.C Kd.string w A0 l0.length l0) (hc0:l0.length≤c0) (h:names_of_string.f l0=some r) :
  Calls Try.prog 61 #[.slice A0 l0.length c0] w fun e w'=>∃ v0_:Value,e=.returned (.agg #[v0_])∧Kd.R Kd.string 9 w' w.heap.size (fun _=>True) v0_ r∧Below w.heap.size w w':=by
 have hu87:=Try.underlying87
 have HR0:=Aside0.mk hr0
 have HC0:=Aside0.mk hc0
 clear hr0 hc0
 have HB:=Aside0.mk (Below.refl w.heap.size w)
 have H:((slices_Clone_string_string.f l0).bind fun t481=>((slices_Sort_string_string.f t481).bind fun t484=>((slices_Compact_string_string.f t484).bind fun t485=>((slices_Clone_string_string.f t485).bind fun t488=>(some t488)))))=some r:=h
 clear h
 replace H:=Option.bind_eq_some_iff.mp H
 obtain ⟨t481,A20,H⟩:=H
 replace H:((slices_Sort_string_string.f t481).bind fun t484=>((slices_Compact_string_string.f t484).bind fun t485=>((slices_Clone_string_string.f t485).bind fun t488=>(some t488))))=some r:=H
 have A2:=Aside0.mk A20
 clear A20
 replace H:=Option.bind_eq_some_iff.mp H
 obtain ⟨t484,A30,H⟩:=H
 replace H:((slices_Compact_string_string.f t484).bind fun t485=>((slices_Clone_string_string.f t485).bind fun t488=>(some t488)))=some r:=H
 have A3:=Aside0.mk A30
 clear A30
 replace H:=Option.bind_eq_some_iff.mp H
 obtain ⟨t485,A40,H⟩:=H
 replace H:((slices_Clone_string_string.f t485).bind fun t488=>(some t488))=some r:=H
 have A4:=Aside0.mk A40
 clear A40
 replace H:=Option.bind_eq_some_iff.mp H
 obtain ⟨t488,A50,H⟩:=H
 replace H:(some t488)=some r:=H
 have A5:=Aside0.mk A50
 clear A50
 obtain rfl:=Option.some.inj H
 go_enter Try.func61,Try.ntmps61
 go_wp2_with (first|((with_reducible refine gate_dst (N:=2) rfl ?_);refine box_event ?hg (N:=2) ?hd (cs:=#[.slice none 0 0]) (t:=87) ?hr ?_;(case hd=>rfl);(case hg=>rfl);(case hr=>first|(go_simp;done)|(go_simp;rfl));intro gb480 hg w6 hbox hb;have n0_:=Aside0.mk (below_step (by repeat (first|(with_reducible first|exact HB.out|apply bA_|apply bN_|apply bD_)|exact HB.out)) hb);have n1_:=Aside0.mk (hbox);have n2_:=Aside0.mk ((by rw [hg];exact (below_size (by repeat (first|(with_reducible first|exact HB.out|apply bA_|apply bN_|apply bD_)|exact HB.out))):w.heap.size≤gb480));have n3_:=Aside0.mk ((by rw [hg];exact (below_size (by repeat (first|(with_reducible first|exact HB.out|apply bA_|apply bN_|apply bD_)|exact HB.out))):w.heap.size≤gb480));clear HB;have HB:=n0_;have BK480:=n1_;have GW480:=n2_;have GE480:=n3_;clear n0_ n1_ n2_ n3_;clear hb hbox hg)|((with_reducible refine gate_callee (f:=66) rfl ?_);refine goesL_ (some 5) rfl rfl Try.func66 (by kernel_rfl) rfl #[.slice A0 l0.length c0] rfl (by (try simp only [List.map_toArray,List.map_cons,List.map_nil]);first|done|rfl|(simp only [List.length_drop,List.length_take];rfl)) ?_;(with_reducible refine (slices_Clone_string_string.calls _ _ l0 t481 _ ?side1 ?side2 A2.out).mono ?_);(case side1=>repeat (first|exact (Kd.C_below HR0.out HB.out)|(with_reducible refine cA_ ?_ _)|(with_reducible refine cN_ ?_ _)|(with_reducible refine cD_ ?_)));(case side2=>exact HC0.out);rintro e w7 ⟨v482,rfl,ho0,hb⟩;refine ⟨_,rfl,?_⟩;have n0_:=Aside0.mk (Kd.R_lower ho0 (below_size (by repeat (first|(with_reducible first|exact HB.out|apply bA_|apply bN_|apply bD_|refine below_set ?_ GE480.out)|exact HB.out))));have n1_:=Aside0.mk (blk_below (g:=gb480) (o:=.cells #[.slice none 0 0] 87 (0,0)) (by (with_reducible repeat (first|refine blk_drewN ?_ _|refine blk_drew ?_|refine blk_alloc ?_ _));exact BK480.out) hb);have n2_:=Aside0.mk (below_step (by repeat (first|(with_reducible first|exact HB.out|apply bA_|apply bN_|apply bD_|refine below_set ?_ GE480.out)|exact HB.out)) hb);clear BK480;clear HB;have HO483:=n0_;have BK480:=n1_;have HB:=n2_;clear n0_ n1_ n2_;(try clear hb);(try clear hb2);(try clear hk);(try clear hi);(try clear ho0);obtain ⟨Ao8,co8,eo8⟩:=Kd.R_slice HO483.out;subst eo8)|((with_reducible refine gate_callee (f:=67) rfl ?_);refine goesL_ (some 7) rfl rfl Try.func67 (by kernel_rfl) rfl #[.slice Ao8 t481.length co8] rfl (by (try simp only [List.map_toArray,List.map_cons,List.map_nil]);first|done|rfl|(simp only [List.length_drop,List.length_take];rfl)) ?_;(with_reducible refine (slices_Sort_string_string.calls (fun k_=>some k_=(.slice Ao8 t481.length co8:Value).ownBlock) (.slice Ao8 t481.length co8) t481 t484 w _ ?side1 ?side2 A3.out).mono ?_);(case side1=>repeat (first|(with_reducible first|exact HB.out|apply bA_|apply bN_|apply bD_|refine below_set ?_ GE480.out)|exact HB.out));(case side2=>exact Kd.R_tight rfl HO483.out);rintro e w9 ⟨rfl,hy0,hb,hkp⟩;refine ⟨_,rfl,?_⟩;have n0_:=Aside0.mk (blk_kept (by (with_reducible repeat (first|refine blk_drewN ?_ _|refine blk_drew ?_|refine blk_alloc ?_ _));exact BK480.out) hkp (fun hs_=>(fun e_=>(Kd.R_ne HO483.out BK480.out (by decide)) e_) hs_));have n1_:=Aside0.mk (Kd.R_reok rfl hy0 (fun k_ e_=>HO483.out.1 k_ e_));have n2_:=Aside0.mk (hb);clear BK480;clear HO483;clear HB;have BK480:=n0_;have HO483:=n1_;have HB:=n2_;clear n0_ n1_ n2_;(try clear hb);(try clear hkp);(try clear hy0))|((with_reducible refine gate_callee (f:=68) rfl ?_);refine goesL_ (some 9) rfl rfl Try.func68 (by kernel_rfl) rfl #[.slice Ao8 t481.length co8] rfl (by (try simp only [List.map_toArray,List.map_cons,List.map_nil]);first|done|rfl|(simp only [List.length_drop,List.length_take];rfl)) ?_;(with_reducible refine (slices_Compact_string_string.calls (fun k_=>some k_=(.slice Ao8 t481.length co8:Value).ownBlock) (.slice Ao8 t481.length co8) t484 t485 w _ ?side1 ?side2 A4.out).mono ?_);(case side1=>repeat (first|(with_reducible first|exact HB.out|apply bA_|apply bN_|apply bD_|refine below_set ?_ GE480.out)|exact HB.out));(case side2=>exact Kd.R_tight rfl HO483.out);rintro e w10 ⟨v486,rfl,ho0,hb,hkp⟩;refine ⟨_,rfl,?_⟩;have n0_:=Aside0.mk (blk_kept (by (with_reducible repeat (first|refine blk_drewN ?_ _|refine blk_drew ?_|refine blk_alloc ?_ _));exact BK480.out) hkp (fun hs_=>(fun e_=>(Kd.R_ne HO483.out BK480.out (by decide)) e_) hs_));have n1_:=Aside0.mk (Kd.R_mono (ok':=fun k_=>True) ho0 (fun k_ hk_=>trivial));have n2_:=Aside0.mk (hb);clear BK480;clear HB;clear HO483;have BK480:=n0_;have HO487:=n1_;have HB:=n2_;clear n0_ n1_ n2_;(try clear hb);(try clear hkp);(try clear ho0);obtain ⟨Ao11,co11,eo11⟩:=Kd.R_slice HO487.out;subst eo11)|((with_reducible refine gate_callee (f:=66) rfl ?_);refine goesL_ (some 10) rfl rfl Try.func66 (by kernel_rfl) rfl #[.slice Ao11 t485.length co11] rfl (by (try simp only [List.map_toArray,List.map_cons,List.map_nil]);first|done|rfl|(simp only [List.length_drop,List.length_take];rfl)) ?_;(with_reducible refine (slices_Clone_string_string.calls _ _ t485 t488 _ ?side1 ?side2 A5.out).mono ?_);(case side1=>repeat (first|exact (Kd.R_reads' HO487.out).2.2|(with_reducible refine cA_ ?_ _)|(with_reducible refine cN_ ?_ _)|(with_reducible refine cD_ ?_)));(case side2=>exact (Kd.R_reads' HO487.out).2.1);rintro e w12 ⟨v489,rfl,ho0,hb⟩;refine ⟨_,rfl,?_⟩;have n0_:=Aside0.mk (Kd.R_elder' (by (with_reducible repeat (first|apply rA_|apply rN_|apply rD_));exact HO487.out) (Kd.R_base ho0) hb);have n1_:=Aside0.mk (Kd.R_lower (Kd.R_new' ho0 (Kd.R_lt (by (with_reducible repeat (first|apply rA_|apply rN_|apply rD_));exact HO487.out))) (below_size (by repeat (first|(with_reducible first|exact HB.out|apply bA_|apply bN_|apply bD_|refine below_set ?_ GE480.out)|exact HB.out))));have n2_:=Aside0.mk (blk_below (g:=gb480) (o:=.cells #[.slice none 0 0] 87 (0,0)) (by (with_reducible repeat (first|refine blk_drewN ?_ _|refine blk_drew ?_|refine blk_alloc ?_ _));exact BK480.out) hb);have n3_:=Aside0.mk (below_step (by repeat (first|(with_reducible first|exact HB.out|apply bA_|apply bN_|apply bD_|refine below_set ?_ GE480.out)|exact HB.out)) hb);clear HO487;clear BK480;clear HB;have HO487:=n0_;have HO490:=n1_;have BK480:=n2_;have HB:=n3_;clear n0_ n1_ n2_ n3_;(try clear hb);(try clear hb2);(try clear hk);(try clear hi);(try clear ho0);obtain ⟨Ao13,co13,eo13⟩:=Kd.R_slice HO490.out;subst eo13;have hcz14_0:w12.cell? ⟨gb480,0,none⟩=some (.slice none 0 0):=(blk_cell BK480.out 0).trans rfl;have hfz14_0:=blk_frozen BK480.out 0))
 refine bodyPost_ret (results_cell_row rfl _ _ gb480 87 #[.slice Ao13 t488.length co13] (0,0) _ rfl (by (with_reducible repeat (first|refine blk_drewN ?_ _|refine blk_drew ?_|refine blk_alloc ?_ _));refine blk_put (cs:=#[.slice none 0 0]) ?_ 0 _ rfl;(with_reducible repeat (first|refine blk_drewN ?_ _|refine blk_drew ?_|refine blk_alloc ?_ _));exact BK480.out) Try.underlying87 rfl (by kernel_rfl)) rfl ?_
 exact ⟨_,by first|rfl|(simp [errW_none,errW_some] <;> rfl)|(simp [*,errW_none,errW_some] <;> rfl),by (with_reducible repeat (first|apply rA_|apply rN_|apply rD_));exact Kd.R_mono (Kd.R_far (p:=⟨gb480,0,none⟩) (Kd.R_types HO490.out BK480.out (by decide)) (fun _ hk=>hk.2) (.slice Ao13 t488.length co13)) (fun _ hk=>trivial),by repeat (first|(with_reducible first|exact HB.out|apply bA_|apply bN_|apply bD_|refine below_set ?_ GE480.out)|exact HB.out)⟩
end Go.Proofs.Ytoihiehoolehiaa.PX
namespace Go.Proofs.Ytoihiehoolehiaa.PX
open Go.RowKit Go.Proofs.YtoihiehoolehiaaW.PrintWords Go.Proofs.YtoihiehoolehiaaW.PrintLast Go.Proofs.YtoihiehoolehiaaW.PrintMore
attribute [local go_sem] max2_int min2_int max_two min_two max_three min_three max_four min_four   
set_option linter.unusedVariables false
set_option linter.unusedSimpArgs false
attribute [local go_sem] run_field_87_0
def names_set_string_with.f (l0_0:List ByteArray) (l1_0:List ByteArray):Option (List ByteArray):=(slices_Clone_string_string.f l0_0).bind fun t494=>(if t494.length+l1_0.length < 8796093022208 then ((names_of_string.f (t494 ++ l1_0)).bind fun t500=>(some t500)) else (none))
def names_set_string_with.T1:Bool × List (List Nat × List Nat):=(true,[([],[]),([0],[0]),([1],[1]),([],[]),([3],[3]),([2,4,2],[2,4]),([5,5],[5]),([6,6,0,1,2,3,4,5,6],[6])])
def names_set_string_with.B1:List Nat:=[0,1,3,0,8,31,63,127]
theorem names_set_string_with.tab1:rtab .any (opsOf Try.f62 1)=names_set_string_with.T1:=by kernel_rfl
theorem names_set_string_with.bits1:waitsOk names_set_string_with.T1.2 names_set_string_with.B1=true:=by kernel_rfl
set_option maxHeartbeats 8000000 in
set_option maxRecDepth 100000 in
theorem names_set_string_with.calls (A0_0:Option Addr) (c0_0:Nat) (l0_0:List ByteArray) (A1_0:Option Addr) (c1_0:Nat) (l1_0:List ByteArray) (r:List ByteArray) (w:World) (hr0_0:Kd.C Kd.string w A0_0 l0_0.length l0_0) (hc0_0:l0_0.length≤c0_0) (hr1_0:Kd.C Kd.string w A1_0 l1_0.length l1_0) (hc1_0:l1_0.length≤c1_0) (h:names_set_string_with.f l0_0 l1_0=some r) :
  Calls Try.prog 62 #[.agg #[.slice A0_0 l0_0.length c0_0],.agg #[.slice A1_0 l1_0.length c1_0]] w fun e w'=>∃ v0_:Value,e=.returned (.agg #[v0_])∧Kd.R Kd.string 9 w' w.heap.size (fun _=>True) v0_ r∧Below w.heap.size w w':=by
 have hu87:=Try.underlying87
 have HR0_0:=Aside0.mk hr0_0
 have HC0_0:=Aside0.mk hc0_0
 clear hr0_0 hc0_0
 have HR1_0:=Aside0.mk hr1_0
 have HC1_0:=Aside0.mk hc1_0
 clear hr1_0 hc1_0
 have HB:=Aside0.mk (Below.refl w.heap.size w)
 have H:((slices_Clone_string_string.f l0_0).bind fun t494=>(if t494.length+l1_0.length < 8796093022208 then ((names_of_string.f (t494 ++ l1_0)).bind fun t500=>(some t500)) else (none)))=some r:=h
 clear h
 replace H:=Option.bind_eq_some_iff.mp H
 obtain ⟨t494,A30,H⟩:=H
 replace H:(if t494.length+l1_0.length < 8796093022208 then ((names_of_string.f (t494 ++ l1_0)).bind fun t500=>(some t500)) else (none))=some r:=H
 have A3:=Aside0.mk A30
 clear A30
 by_cases c4:t494.length+l1_0.length < 8796093022208
 ·rw [if_pos c4] at H
  have LMc4:=Aside0.mk c4
  clear c4
  obtain ⟨y497,hy497⟩:∃ y_:List ByteArray,y_=(t494 ++ l1_0):=⟨_,rfl⟩
  replace H:((names_of_string.f y497).bind fun t500=>(some t500))=some r:=by first|(rw [hy497];with_reducible exact H)|(have H2_:=(Option.bind_some _ _).symm.trans H;rw [hy497];with_reducible exact H2_)|(have H2_:=(Option.bind_some _ _).symm.trans H;with_reducible exact H2_)|with_reducible exact H|(rw [hy497];exact H)|exact H
  have Ny497:=Aside0.mk hy497
  clear hy497
  replace H:=Option.bind_eq_some_iff.mp H
  obtain ⟨t500,A50,H⟩:=H
  replace H:(some t500)=some r:=H
  have A5:=Aside0.mk A50
  clear A50
  obtain rfl:=Option.some.inj H
  go_enter Try.func62,Try.ntmps62
  try go_wp2_with (first|((with_reducible refine gate_dst (N:=2) rfl ?_);refine box_event ?hg (N:=2) ?hd (cs:=#[.slice A0_0 l0_0.length c0_0]) (t:=87) ?hr ?_;(case hd=>rfl);(case hg=>rfl);(case hr=>first|(go_simp;done)|(go_simp;rfl));intro gb491 hg w6 hbox hb;have n0_:=Aside0.mk (below_step (by repeat (first|(with_reducible first|exact HB.out|apply bA_|apply bN_|apply bD_)|exact HB.out)) hb);have n1_:=Aside0.mk (hbox);have n2_:=Aside0.mk ((by rw [hg];exact (below_size (by repeat (first|(with_reducible first|exact HB.out|apply bA_|apply bN_|apply bD_)|exact HB.out))):w.heap.size≤gb491));have n3_:=Aside0.mk ((by rw [hg];exact (below_size (by repeat (first|(with_reducible first|exact HB.out|apply bA_|apply bN_|apply bD_)|exact HB.out))):w.heap.size≤gb491));clear HB;have HB:=n0_;have BK491:=n1_;have GW491:=n2_;have GE491:=n3_;clear n0_ n1_ n2_ n3_;clear hb hbox hg)|((with_reducible refine gate_dst (N:=3) rfl ?_);refine box_event ?hg (N:=3) ?hd (cs:=#[.slice A1_0 l1_0.length c1_0]) (t:=87) ?hr ?_;(case hd=>rfl);(case hg=>rfl);(case hr=>first|(go_simp;done)|(go_simp;rfl));intro gb492 hg w7 hbox hb;have n0_:=Aside0.mk (blk_below (g:=gb491) (o:=.cells #[.slice A0_0 l0_0.length c0_0] 87 (0,0)) (by (with_reducible repeat (first|refine blk_drewN ?_ _|refine blk_drew ?_|refine blk_alloc ?_ _));exact BK491.out) hb);have n1_:=Aside0.mk (below_step (by repeat (first|(with_reducible first|exact HB.out|apply bA_|apply bN_|apply bD_|refine below_set ?_ GE491.out)|exact HB.out)) hb);have n2_:=Aside0.mk (hbox);have n3_:=Aside0.mk ((by rw [hg];exact (below_size (by repeat (first|(with_reducible first|exact HB.out|apply bA_|apply bN_|apply bD_|refine below_set ?_ GE491.out)|exact HB.out))):w.heap.size≤gb492));have n4_:=Aside0.mk ((by rw [hg];exact (below_size (by repeat (first|(with_reducible first|exact HB.out|apply bA_|apply bN_|apply bD_|refine below_set ?_ GE491.out)|exact HB.out))):w.heap.size≤gb492));have n5_:=Aside0.mk ((by rw [hg];exact Nat.ne_of_lt (blk_lt (g:=gb491) (o:=.cells #[.slice A0_0 l0_0.length c0_0] 87 (0,0)) (by (with_reducible repeat (first|refine blk_drewN ?_ _|refine blk_drew ?_|refine blk_alloc ?_ _));exact BK491.out)):gb491≠gb492));have n6_:=Aside0.mk ((by rw [hg];exact Nat.ne_of_gt (blk_lt (g:=gb491) (o:=.cells #[.slice A0_0 l0_0.length c0_0] 87 (0,0)) (by (with_reducible repeat (first|refine blk_drewN ?_ _|refine blk_drew ?_|refine blk_alloc ?_ _));exact BK491.out)):gb492≠gb491));clear BK491;clear HB;have BK491:=n0_;have HB:=n1_;have BK492:=n2_;have GW492:=n3_;have GE492:=n4_;have NB491_492:=n5_;have NB492_491:=n6_;clear n0_ n1_ n2_ n3_ n4_ n5_ n6_;clear hb hbox hg)|((with_reducible refine gate_dst (N:=4) rfl ?_);refine box_event ?hg (N:=4) ?hd (cs:=#[.slice none 0 0]) (t:=87) ?hr ?_;(case hd=>rfl);(case hg=>rfl);(case hr=>first|(go_simp;done)|(go_simp;rfl));intro gb493 hg w8 hbox hb;have n0_:=Aside0.mk (blk_below (g:=gb491) (o:=.cells #[.slice A0_0 l0_0.length c0_0] 87 (0,0)) (by (with_reducible repeat (first|refine blk_drewN ?_ _|refine blk_drew ?_|refine blk_alloc ?_ _));exact BK491.out) hb);have n1_:=Aside0.mk (blk_below (g:=gb492) (o:=.cells #[.slice A1_0 l1_0.length c1_0] 87 (0,0)) (by (with_reducible repeat (first|refine blk_drewN ?_ _|refine blk_drew ?_|refine blk_alloc ?_ _));exact BK492.out) hb);have n2_:=Aside0.mk (below_step (by repeat (first|(with_reducible first|exact HB.out|apply bA_|apply bN_|apply bD_|refine below_set ?_ GE491.out|refine below_set ?_ GE492.out)|exact HB.out)) hb);have n3_:=Aside0.mk (hbox);have n4_:=Aside0.mk ((by rw [hg];exact (below_size (by repeat (first|(with_reducible first|exact HB.out|apply bA_|apply bN_|apply bD_|refine below_set ?_ GE491.out|refine below_set ?_ GE492.out)|exact HB.out))):w.heap.size≤gb493));have n5_:=Aside0.mk ((by rw [hg];exact (below_size (by repeat (first|(with_reducible first|exact HB.out|apply bA_|apply bN_|apply bD_|refine below_set ?_ GE491.out|refine below_set ?_ GE492.out)|exact HB.out))):w.heap.size≤gb493));have n6_:=Aside0.mk ((by rw [hg];exact Nat.ne_of_lt (blk_lt (g:=gb491) (o:=.cells #[.slice A0_0 l0_0.length c0_0] 87 (0,0)) (by (with_reducible repeat (first|refine blk_drewN ?_ _|refine blk_drew ?_|refine blk_alloc ?_ _));exact BK491.out)):gb491≠gb493));have n7_:=Aside0.mk ((by rw [hg];exact Nat.ne_of_gt (blk_lt (g:=gb491) (o:=.cells #[.slice A0_0 l0_0.length c0_0] 87 (0,0)) (by (with_reducible repeat (first|refine blk_drewN ?_ _|refine blk_drew ?_|refine blk_alloc ?_ _));exact BK491.out)):gb493≠gb491));have n8_:=Aside0.mk ((by rw [hg];exact Nat.ne_of_lt (blk_lt (g:=gb492) (o:=.cells #[.slice A1_0 l1_0.length c1_0] 87 (0,0)) (by (with_reducible repeat (first|refine blk_drewN ?_ _|refine blk_drew ?_|refine blk_alloc ?_ _));exact BK492.out)):gb492≠gb493));have n9_:=Aside0.mk ((by rw [hg];exact Nat.ne_of_gt (blk_lt (g:=gb492) (o:=.cells #[.slice A1_0 l1_0.length c1_0] 87 (0,0)) (by (with_reducible repeat (first|refine blk_drewN ?_ _|refine blk_drew ?_|refine blk_alloc ?_ _));exact BK492.out)):gb493≠gb492));clear BK491;clear BK492;clear HB;have BK491:=n0_;have BK492:=n1_;have HB:=n2_;have BK493:=n3_;have GW493:=n4_;have GE493:=n5_;have NB491_493:=n6_;have NB493_491:=n7_;have NB492_493:=n8_;have NB493_492:=n9_;clear n0_ n1_ n2_ n3_ n4_ n5_ n6_ n7_ n8_ n9_;clear hb hbox hg))
  have n0_:=Aside0.mk (blk_drew BK491.out)
  have n1_:=Aside0.mk (blk_drew BK492.out)
  have n2_:=Aside0.mk (blk_drew BK493.out)
  have n3_:=Aside0.mk (bD_ HB.out)
  clear BK491
  clear BK492
  clear BK493
  clear HB
  have BK491:=n0_
  have BK492:=n1_
  have BK493:=n2_
  have HB:=n3_
  clear n0_ n1_ n2_ n3_
  refine start_ (n:=8) (S:=fun w'=>w'.cell? ⟨gb491,0,none⟩=some (.slice A0_0 l0_0.length c0_0)∧w'.cell? ⟨gb492,0,none⟩=some (.slice A1_0 l1_0.length c1_0)) (ds:=[]) #[false,false,false,false,false,false,false,false] (by kernel_rfl) rfl rfl ⟨(blk_cell BK491.out 0).trans rfl,(blk_cell BK492.out 0).trans rfl⟩ (fun hHeld=>?_);refine with_tabW names_set_string_with.tab1 names_set_string_with.bits1 (fun HT_ HW_=>?_)
  generalize w8.drew=w9 at BK491 BK492 BK493 HB hHeld ⊢
  refine pure_ (i:=0) (N:=some 5) (v:=?_) (a':=?_) #[true,false,false,false,false,false,false,false] rfl rfl (any_of HT_.out (by kernel_rfl)) (fun _ _ _ h=>h) (Or.inl ⟨by rfl,?_⟩) ?_ ?_
  rotate_left
  ·intro w'
   go_simp
   with_reducible rfl
  rotate_left
  ·simp only [Act.put,List.setIfInBounds_toArray,List.set_cons_zero,List.set_cons_succ,i64_w,i32_w]
   rfl
  refine pure_ (i:=3) (N:=some 8) (v:=?_) (a':=?_) #[true,false,false,true,false,false,false,false] rfl rfl (any_of HT_.out (by kernel_rfl)) (fun _ _ _ h=>h) (Or.inl ⟨by rfl,?_⟩) ?_ ?_
  rotate_left
  ·intro w'
   go_simp
   with_reducible rfl
  rotate_left
  ·simp only [Act.put,List.setIfInBounds_toArray,List.set_cons_zero,List.set_cons_succ,i64_w,i32_w]
   rfl
  refine take_ (i:=1) (N:=some 6) (v:=?_) (a':=?_) #[true,true,false,true,false,false,false,false] rfl rfl (take_ofW HT_.out HW_.out (by kernel_rfl)) (fun _ _ _ h=>h) (Or.inl ⟨by rfl,?_⟩) hHeld ?_ ?_
  rotate_left
  ·rintro w' ⟨s0,s1⟩
   go_simp
   with_reducible rfl
  rotate_left
  ·simp only [Act.put,List.setIfInBounds_toArray,List.set_cons_zero,List.set_cons_succ,i64_w,i32_w]
   rfl
  refine take_ (i:=4) (N:=some 9) (v:=?_) (a':=?_) #[true,true,false,true,true,false,false,false] rfl rfl (take_ofW HT_.out HW_.out (by kernel_rfl)) (fun _ _ _ h=>h) (Or.inl ⟨by rfl,?_⟩) hHeld ?_ ?_
  rotate_left
  ·rintro w' ⟨s0,s1⟩
   go_simp
   with_reducible rfl
  rotate_left
  ·simp only [Act.put,List.setIfInBounds_toArray,List.set_cons_zero,List.set_cons_succ,i64_w,i32_w]
   rfl
  refine one_ (i:=2) (N:=some 7) #[true,true,true,true,true,false,false,false] rfl rfl (one_of HT_.out (by kernel_rfl)) (by decide) (fun K hK=>?_)
  refine goes_ Try.func66 (by kernel_rfl) rfl #[.slice A0_0 l0_0.length c0_0] (by rfl) rfl rfl (by (try simp only [List.map_toArray,List.map_cons,List.map_nil]);first|done|rfl|(simp only [List.length_drop,List.length_take];rfl)) ?_
  with_reducible refine (slices_Clone_string_string.calls _ _ l0_0 t494 _ ?side1 ?side2 A3.out).mono ?_
  (case side1=>repeat (first|exact (Kd.C_below HR0_0.out HB.out)|(with_reducible refine cA_ ?_ _)|(with_reducible refine cN_ ?_ _)|(with_reducible refine cD_ ?_)))
  (case side2=>exact HC0_0.out)
  rintro e w10 ⟨v495,rfl,ho0,hb⟩
  refine ⟨_,rfl,?_⟩
  have n0_:=Aside0.mk (Kd.R_lower ho0 (below_size (by repeat (first|(with_reducible first|exact HB.out|apply bA_|apply bN_|apply bD_|refine below_set ?_ GE491.out|refine below_set ?_ GE492.out|refine below_set ?_ GE493.out)|exact HB.out))))
  have n1_:=Aside0.mk (blk_below (g:=gb491) (o:=.cells #[.slice A0_0 l0_0.length c0_0] 87 (0,0)) (by (with_reducible repeat (first|refine blk_drewN ?_ _|refine blk_drew ?_|refine blk_alloc ?_ _));exact BK491.out) hb)
  have n2_:=Aside0.mk (blk_below (g:=gb492) (o:=.cells #[.slice A1_0 l1_0.length c1_0] 87 (0,0)) (by (with_reducible repeat (first|refine blk_drewN ?_ _|refine blk_drew ?_|refine blk_alloc ?_ _));exact BK492.out) hb)
  have n3_:=Aside0.mk (blk_below (g:=gb493) (o:=.cells #[.slice none 0 0] 87 (0,0)) (by (with_reducible repeat (first|refine blk_drewN ?_ _|refine blk_drew ?_|refine blk_alloc ?_ _));exact BK493.out) hb)
  have n4_:=Aside0.mk (below_step (by repeat (first|(with_reducible first|exact HB.out|apply bA_|apply bN_|apply bD_|refine below_set ?_ GE491.out|refine below_set ?_ GE492.out|refine below_set ?_ GE493.out)|exact HB.out)) hb)
  clear BK491
  clear BK492
  clear BK493
  clear HB
  have HO496:=n0_
  have BK491:=n1_
  have BK492:=n2_
  have BK493:=n3_
  have HB:=n4_
  clear n0_ n1_ n2_ n3_ n4_
  (try clear hb)
  (try clear hb2)
  (try clear hk)
  (try clear hi)
  (try clear ho0)
  refine hK.out _ _ ⟨(blk_cell BK491.out 0).trans rfl,(blk_cell BK492.out 0).trans rfl⟩ (fun hHeld=>?_)
  clear hK K
  refine norm_ (a':=?_) ?_ ?_
  rotate_left
  ·show Act.put _ (some 7) _=_
   simp only [Act.put,List.setIfInBounds_toArray,List.set_cons_zero,List.set_cons_succ,i64_w,i32_w]
   rfl
  refine one_ (i:=5) (N:=some 10) #[true,true,true,true,true,true,false,false] rfl rfl (one_of HT_.out (by kernel_rfl)) (by decide) (fun K hK=>?_)
  refine Kd.R_append_rows_step Kd.string (w0:=w) w.heap.size (by rfl) (.tmp 7) (.tmp 9) 36 9 (.string ⟨#[]⟩) 16 rfl Try.underlying36 info9 rfl (by decide) (by omega) v495 t494 l1_0 _ _ _ (fun _=>True) (fun _=>False) rfl rfl ?aO ?aR (fun _ _ h=>h) (fun _ h=>h.elim) ?aF ?aB ?aS ?aL ?_
  (case aR=>repeat (first|exact (Kd.C_below HR1_0.out HB.out)|(with_reducible refine cA_ ?_ _)|(with_reducible refine cN_ ?_ _)|(with_reducible refine cD_ ?_)))
  (case aB=>exact (by repeat (first|(with_reducible first|exact HB.out|apply bA_|apply bN_|apply bD_|refine below_set ?_ GE491.out|refine below_set ?_ GE492.out|refine below_set ?_ GE493.out)|exact HB.out)))
  (case aF=>exact (fun _ _=>trivial))
  (case aO=>exact (by (with_reducible repeat (first|apply rA_|apply rN_|apply rD_));exact HO496.out))
  (case aS=>exact (below_size (by repeat (first|(with_reducible first|exact HB.out|apply bA_|apply bN_|apply bD_|refine below_set ?_ GE491.out|refine below_set ?_ GE492.out|refine below_set ?_ GE493.out)|exact HB.out))))
  (case aL=>have:=LMc4.out;omega)
  intro v498 w11 ho hb hg hat
  rw [← Ny497.out] at ho
  have n0_:=Aside0.mk (blk_grown (g:=gb491) (o:=.cells #[.slice A0_0 l0_0.length c0_0] 87 (0,0)) (by (with_reducible repeat (first|refine blk_drewN ?_ _|refine blk_drew ?_|refine blk_alloc ?_ _));exact BK491.out) hg (Kd.R_ne HO496.out BK491.out (by decide)))
  have n1_:=Aside0.mk (blk_grown (g:=gb492) (o:=.cells #[.slice A1_0 l1_0.length c1_0] 87 (0,0)) (by (with_reducible repeat (first|refine blk_drewN ?_ _|refine blk_drew ?_|refine blk_alloc ?_ _));exact BK492.out) hg (Kd.R_ne HO496.out BK492.out (by decide)))
  have n2_:=Aside0.mk (blk_grown (g:=gb493) (o:=.cells #[.slice none 0 0] 87 (0,0)) (by (with_reducible repeat (first|refine blk_drewN ?_ _|refine blk_drew ?_|refine blk_alloc ?_ _));exact BK493.out) hg (Kd.R_ne HO496.out BK493.out (by decide)))
  have n3_:=Aside0.mk (hb)
  have n4_:=Aside0.mk (ho)
  clear BK491
  clear BK492
  clear BK493
  clear HB
  clear HO496
  have BK491:=n0_
  have BK492:=n1_
  have BK493:=n2_
  have HB:=n3_
  have HO499:=n4_
  clear n0_ n1_ n2_ n3_ n4_
  clear ho hb hg hat
  obtain ⟨Ao12,co12,eo12⟩:=Kd.R_slice HO499.out
  (first|subst eo12|(injection eo12 with f1_ f2_ f3_;have f4_:=f1_.symm;have f5_:=f3_.symm;clear f1_ f2_ f3_;subst f4_;subst f5_))
  refine hK.out _ _ ⟨(blk_cell BK491.out 0).trans rfl,(blk_cell BK492.out 0).trans rfl⟩ (fun hHeld=>?_)
  clear hK K
  refine norm_ (a':=?_) ?_ ?_
  rotate_left
  ·show Act.put _ (some 10) _=_
   simp only [Act.put,List.setIfInBounds_toArray,List.set_cons_zero,List.set_cons_succ,i64_w,i32_w]
   rfl
  refine one_ (i:=6) (N:=some 11) #[true,true,true,true,true,true,true,false] rfl rfl (one_of HT_.out (by kernel_rfl)) (by decide) (fun K hK=>?_)
  refine goes_ Try.func61 (by kernel_rfl) rfl #[.slice Ao12 y497.length co12] (by rfl) rfl rfl (by (try simp only [List.map_toArray,List.map_cons,List.map_nil]);first|done|rfl|(simp only [List.length_drop,List.length_take];rfl)) ?_
  with_reducible refine (names_of_string.calls _ _ y497 t500 _ ?side1 ?side2 A5.out).mono ?_
  (case side1=>repeat (first|exact (Kd.R_reads' HO499.out).2.2|(with_reducible refine cA_ ?_ _)|(with_reducible refine cN_ ?_ _)|(with_reducible refine cD_ ?_)))
  (case side2=>exact (Kd.R_reads' HO499.out).2.1)
  rintro e w13 ⟨v501,rfl,ho0,hb⟩
  refine ⟨_,rfl,?_⟩
  have n0_:=Aside0.mk (Kd.R_elder' (by (with_reducible repeat (first|apply rA_|apply rN_|apply rD_));exact HO499.out) (Kd.R_base ho0) hb)
  have n1_:=Aside0.mk (Kd.R_lower (Kd.R_new' ho0 (Kd.R_lt (by (with_reducible repeat (first|apply rA_|apply rN_|apply rD_));exact HO499.out))) (below_size (by repeat (first|(with_reducible first|exact HB.out|apply bA_|apply bN_|apply bD_|refine below_set ?_ GE491.out|refine below_set ?_ GE492.out|refine below_set ?_ GE493.out)|exact HB.out))))
  have n2_:=Aside0.mk (blk_below (g:=gb491) (o:=.cells #[.slice A0_0 l0_0.length c0_0] 87 (0,0)) (by (with_reducible repeat (first|refine blk_drewN ?_ _|refine blk_drew ?_|refine blk_alloc ?_ _));exact BK491.out) hb)
  have n3_:=Aside0.mk (blk_below (g:=gb492) (o:=.cells #[.slice A1_0 l1_0.length c1_0] 87 (0,0)) (by (with_reducible repeat (first|refine blk_drewN ?_ _|refine blk_drew ?_|refine blk_alloc ?_ _));exact BK492.out) hb)
  have n4_:=Aside0.mk (blk_below (g:=gb493) (o:=.cells #[.slice none 0 0] 87 (0,0)) (by (with_reducible repeat (first|refine blk_drewN ?_ _|refine blk_drew ?_|refine blk_alloc ?_ _));exact BK493.out) hb)
  have n5_:=Aside0.mk (below_step (by repeat (first|(with_reducible first|exact HB.out|apply bA_|apply bN_|apply bD_|refine below_set ?_ GE491.out|refine below_set ?_ GE492.out|refine below_set ?_ GE493.out)|exact HB.out)) hb)
  clear HO499
  clear BK491
  clear BK492
  clear BK493
  clear HB
  have HO499:=n0_
  have HO502:=n1_
  have BK491:=n2_
  have BK492:=n3_
  have BK493:=n4_
  have HB:=n5_
  clear n0_ n1_ n2_ n3_ n4_ n5_
  (try clear hb)
  (try clear hb2)
  (try clear hk)
  (try clear hi)
  (try clear ho0)
  obtain ⟨Ao14,co14,eo14⟩:=Kd.R_slice HO502.out
  (first|subst eo14|(injection eo14 with f1_ f2_ f3_;have f4_:=f1_.symm;have f5_:=f3_.symm;clear f1_ f2_ f3_;subst f4_;subst f5_))
  refine hK.out _ _ ⟨(blk_cell BK491.out 0).trans rfl,(blk_cell BK492.out 0).trans rfl⟩ (fun hHeld=>?_)
  clear hK K
  refine norm_ (a':=?_) ?_ ?_
  rotate_left
  ·show Act.put _ (some 11) _=_
   simp only [Act.put,List.setIfInBounds_toArray,List.set_cons_zero,List.set_cons_succ,i64_w,i32_w]
   rfl
  refine one_ (i:=7) (N:=none) #[true,true,true,true,true,true,true,true] rfl rfl (one_of HT_.out (by kernel_rfl)) (by decide) (fun K hK=>?_)
  have hs15:w13.cell? ⟨gb493,0,none⟩=some (.slice none 0 0):=(blk_cell BK493.out 0).trans rfl
  have hfs15:=blk_frozen BK493.out 0
  have hns15_0:=NB491_493.out
  have hns15_1:=NB492_493.out
  have hms15_0:=NB493_491.out
  have hms15_1:=NB493_492.out
  refine skip_ (w1:=?_) (by rfl) rfl ?_ ?_
  rotate_left
  ·go_simp
   rfl
  refine hK.out _ _ ⟨((cell_far (p:=⟨gb493,_,none⟩) NB491_493.out _).trans (hHeld.1)),((cell_far (p:=⟨gb493,_,none⟩) NB492_493.out _).trans (hHeld.2))⟩ (fun hHeld=>?_)
  clear hK K
  refine done_ (done_of HT_.out (by kernel_rfl)) ?_
  try go_wp2
  refine bodyPost_ret (results_cell_row rfl _ _ gb493 87 #[.slice Ao14 t500.length co14] (0,0) _ rfl (by (with_reducible repeat (first|refine blk_drewN ?_ _|refine blk_drew ?_|refine blk_alloc ?_ _));refine blk_put (cs:=#[.slice none 0 0]) ?_ 0 _ rfl;(with_reducible repeat (first|refine blk_drewN ?_ _|refine blk_drew ?_|refine blk_alloc ?_ _));exact BK493.out) Try.underlying87 rfl (by kernel_rfl)) rfl ?_
  exact ⟨_,by first|rfl|(simp [errW_none,errW_some] <;> rfl)|(simp [*,errW_none,errW_some] <;> rfl),by (with_reducible repeat (first|apply rA_|apply rN_|apply rD_));exact Kd.R_mono (Kd.R_far (p:=⟨gb493,0,none⟩) (Kd.R_types HO502.out BK493.out (by decide)) (fun _ hk=>hk.2) (.slice Ao14 t500.length co14)) (fun _ hk=>trivial),by repeat (first|(with_reducible first|exact HB.out|apply bA_|apply bN_|apply bD_|refine below_set ?_ GE491.out|refine below_set ?_ GE492.out|refine below_set ?_ GE493.out)|exact HB.out)⟩
 ·rw [if_neg c4] at H
  exact absurd H (by simp)
end Go.Proofs.Ytoihiehoolehiaa.PX
namespace Go.Proofs.Ytoihiehoolehiaa.PX
open Go.RowKit Go.Proofs.YtoihiehoolehiaaW.PrintWords Go.Proofs.YtoihiehoolehiaaW.PrintLast Go.Proofs.YtoihiehoolehiaaW.PrintMore
attribute [local go_sem] max2_int min2_int max_two min_two max_three min_three max_four min_four   
set_option linter.unusedVariables false
set_option linter.unusedSimpArgs false
attribute [local go_sem] run_field_87_0
def cmp_isNaN_string.f (a0:ByteArray):Option (Bool):=some (a0.toList != a0.toList)
set_option maxHeartbeats 8000000 in
set_option maxRecDepth 100000 in
theorem cmp_isNaN_string.calls (a0:ByteArray) (r:Bool) (w:World) (h:cmp_isNaN_string.f a0=some r) :
  Calls Try.prog 84 #[.string a0] w fun e w'=>e=.returned (.bool r)∧Drawn0 w w':=by
 have H:(some (a0.toList != a0.toList))=some r:=h
 clear h
 obtain rfl:=Option.some.inj H
 go_enter Try.func84,Try.ntmps84
 go_wp2
 go_ret
 exact ⟨by first|rfl|(simp;done)|(simp [*];done),by repeat (first|exact Drawn0.refl _|apply Drawn0.step)⟩
end Go.Proofs.Ytoihiehoolehiaa.PX
namespace Go.Proofs.Ytoihiehoolehiaa.PX
open Go.RowKit Go.Proofs.YtoihiehoolehiaaW.PrintWords Go.Proofs.YtoihiehoolehiaaW.PrintLast Go.Proofs.YtoihiehoolehiaaW.PrintMore
attribute [local go_sem] max2_int min2_int max_two min_two max_three min_three max_four min_four   
set_option linter.unusedVariables false
set_option linter.unusedSimpArgs false
attribute [local go_sem] run_field_87_0
def cmp_Less_string.f (a0:ByteArray) (a1:ByteArray):Option (Bool):=(cmp_isNaN_string.f a0).bind fun t503=>(if t503=true then ((cmp_isNaN_string.f a1).bind fun t504=>(if t504=true then (some (Op.bytesLess a0.toList a1.toList)) else (some true))) else (some (Op.bytesLess a0.toList a1.toList)))
set_option maxHeartbeats 8000000 in
set_option maxRecDepth 100000 in
theorem cmp_Less_string.calls (a0:ByteArray) (a1:ByteArray) (r:Bool) (w:World) (h:cmp_Less_string.f a0 a1=some r) :
  Calls Try.prog 72 #[.string a0,.string a1] w fun e w'=>e=.returned (.bool r)∧Drawn0 w w':=by
 have H:((cmp_isNaN_string.f a0).bind fun t503=>(if t503=true then ((cmp_isNaN_string.f a1).bind fun t504=>(if t504=true then (some (Op.bytesLess a0.toList a1.toList)) else (some true))) else (some (Op.bytesLess a0.toList a1.toList))))=some r:=h
 clear h
 replace H:=Option.bind_eq_some_iff.mp H
 obtain ⟨t503,A30,H⟩:=H
 replace H:(if t503=true then ((cmp_isNaN_string.f a1).bind fun t504=>(if t504=true then (some (Op.bytesLess a0.toList a1.toList)) else (some true))) else (some (Op.bytesLess a0.toList a1.toList)))=some r:=H
 have A3:=Aside0.mk A30
 clear A30
 by_cases c4:t503=true
 ·subst c4
  have H1:((cmp_isNaN_string.f a1).bind fun t504=>(if t504=true then (some (Op.bytesLess a0.toList a1.toList)) else (some true)))=some r:=by rw [if_pos rfl] at H;exact H
  clear H
  have H:=H1
  clear H1
  replace H:=Option.bind_eq_some_iff.mp H
  obtain ⟨t504,A50,H⟩:=H
  replace H:(if t504=true then (some (Op.bytesLess a0.toList a1.toList)) else (some true))=some r:=H
  have A5:=Aside0.mk A50
  clear A50
  by_cases c6:t504=true
  ·subst c6
   have H1:(some (Op.bytesLess a0.toList a1.toList))=some r:=by rw [if_pos rfl] at H;exact H
   clear H
   have H:=H1
   clear H1
   obtain rfl:=Option.some.inj H
   go_enter Try.func72,Try.ntmps72
   go_wp2_with (first|((with_reducible refine gate_callee (f:=84) rfl ?_);refine goesL_ (some 6) rfl rfl Try.func84 (by kernel_rfl) rfl #[.string a0] rfl (by (try simp only [List.map_toArray,List.map_cons,List.map_nil]);first|done|rfl|(simp only [List.length_drop,List.length_take];rfl)) ?_;(with_reducible refine (cmp_isNaN_string.calls a0 true _ A3.out).mono ?_);rintro e w' ⟨rfl,⟨nd,rfl⟩⟩;refine ⟨_,rfl,?_⟩)|(go_at_call 84;(with_reducible refine (cmp_isNaN_string.calls a1 true _ A5.out).mono ?_);rintro e w' ⟨rfl,⟨nd,rfl⟩⟩))
   go_ret
   exact ⟨by first|rfl|(simp;done)|(simp [*];done),by repeat (first|exact Drawn0.refl _|apply Drawn0.step)⟩
  ·replace c6:=Bool.eq_false_iff.mpr c6
   subst c6
   have H1:(some true)=some r:=by rw [if_neg (show ¬ (false=true) by decide)] at H;exact H
   clear H
   have H:=H1
   clear H1
   obtain rfl:=Option.some.inj H
   go_enter Try.func72,Try.ntmps72
   go_wp2_with (first|((with_reducible refine gate_callee (f:=84) rfl ?_);refine goesL_ (some 6) rfl rfl Try.func84 (by kernel_rfl) rfl #[.string a0] rfl (by (try simp only [List.map_toArray,List.map_cons,List.map_nil]);first|done|rfl|(simp only [List.length_drop,List.length_take];rfl)) ?_;(with_reducible refine (cmp_isNaN_string.calls a0 true _ A3.out).mono ?_);rintro e w' ⟨rfl,⟨nd,rfl⟩⟩;refine ⟨_,rfl,?_⟩)|(go_at_call 84;(with_reducible refine (cmp_isNaN_string.calls a1 false _ A5.out).mono ?_);rintro e w' ⟨rfl,⟨nd,rfl⟩⟩))
   go_ret
   exact ⟨by first|rfl|(simp;done)|(simp [*];done),by repeat (first|exact Drawn0.refl _|apply Drawn0.step)⟩
 ·replace c4:=Bool.eq_false_iff.mpr c4
  subst c4
  have H1:(some (Op.bytesLess a0.toList a1.toList))=some r:=by rw [if_neg (show ¬ (false=true) by decide)] at H;exact H
  clear H
  have H:=H1
  clear H1
  obtain rfl:=Option.some.inj H
  go_enter Try.func72,Try.ntmps72
  go_wp2_with (first|((with_reducible refine gate_callee (f:=84) rfl ?_);refine goesL_ (some 6) rfl rfl Try.func84 (by kernel_rfl) rfl #[.string a0] rfl (by (try simp only [List.map_toArray,List.map_cons,List.map_nil]);first|done|rfl|(simp only [List.length_drop,List.length_take];rfl)) ?_;(with_reducible refine (cmp_isNaN_string.calls a0 false _ A3.out).mono ?_);rintro e w' ⟨rfl,⟨nd,rfl⟩⟩;refine ⟨_,rfl,?_⟩))
  go_ret
  exact ⟨by first|rfl|(simp;done)|(simp [*];done),by repeat (first|exact Drawn0.refl _|apply Drawn0.step)⟩
end Go.Proofs.Ytoihiehoolehiaa.PX
namespace Go.Proofs.Ytoihiehoolehiaa.PX
open Go.RowKit Go.Proofs.YtoihiehoolehiaaW.PrintWords Go.Proofs.YtoihiehoolehiaaW.PrintLast Go.Proofs.YtoihiehoolehiaaW.PrintMore
attribute [local go_sem] max2_int min2_int max_two min_two max_three min_three max_four min_four   
set_option linter.unusedVariables false
set_option linter.unusedSimpArgs false
attribute [local go_sem] run_field_87_0
def slices_isNaN_string.f (a0:ByteArray):Option (Bool):=some (a0.toList != a0.toList)
set_option maxHeartbeats 8000000 in
set_option maxRecDepth 100000 in
theorem slices_isNaN_string.calls (a0:ByteArray) (r:Bool) (w:World) (h:slices_isNaN_string.f a0=some r) :
  Calls Try.prog 73 #[.string a0] w fun e w'=>e=.returned (.bool r)∧Drawn0 w w':=by
 have H:(some (a0.toList != a0.toList))=some r:=h
 clear h
 obtain rfl:=Option.some.inj H
 go_enter Try.func73,Try.ntmps73
 go_wp2
 go_ret
 exact ⟨by first|rfl|(simp;done)|(simp [*];done),by repeat (first|exact Drawn0.refl _|apply Drawn0.step)⟩
end Go.Proofs.Ytoihiehoolehiaa.PX
namespace Go.Proofs.Ytoihiehoolehiaa.PX
open Go.RowKit Go.Proofs.YtoihiehoolehiaaW.PrintWords Go.Proofs.YtoihiehoolehiaaW.PrintLast Go.Proofs.YtoihiehoolehiaaW.PrintMore
attribute [local go_sem] max2_int min2_int max_two min_two max_three min_three max_four min_four   
set_option linter.unusedVariables false
set_option linter.unusedSimpArgs false
attribute [local go_sem] run_field_87_0
def slices_BinarySearch_string_string.l0:Nat→List ByteArray→ByteArray→Int→Int→Int→Option (Int × Bool)
 | 0,_,_,_,_,_=>none
 | k+1,x0,x1,x6,x7,x8=>if x7 < x8 then (if 0≤(wrap64 ((IntKind.u64.wrap (wrap64 (x7+x8))) / 2)) then (if (wrap64 ((IntKind.u64.wrap (wrap64 (x7+x8))) / 2)) < (x0.length:Int) then ((cmp_Less_string.f (rdOf ByteArray.empty x0 (wrap64 ((IntKind.u64.wrap (wrap64 (x7+x8))) / 2))) x1).bind fun t506=>(if t506=true then (slices_BinarySearch_string_string.l0 k x0 x1 x6 (wrap64 ((wrap64 ((IntKind.u64.wrap (wrap64 (x7+x8))) / 2))+1)) x8) else (slices_BinarySearch_string_string.l0 k x0 x1 x6 x7 (wrap64 ((IntKind.u64.wrap (wrap64 (x7+x8))) / 2))))) else (none)) else (none)) else (if x7 < x6 then (if 0≤x7 then (if x7 < (x0.length:Int) then (if (rdOf ByteArray.empty x0 x7).toList=x1.toList then (some (x7,true)) else ((slices_isNaN_string.f (rdOf ByteArray.empty x0 x7)).bind fun t509=>(if t509=true then ((slices_isNaN_string.f x1).bind fun t510=>(some (x7,t510))) else (some (x7,false))))) else (none)) else (none)) else (some (x7,false)))
def slices_BinarySearch_string_string.f (k:Nat) (l0:List ByteArray) (a1:ByteArray):Option (Int × Bool):=slices_BinarySearch_string_string.l0 k l0 a1 (l0.length:Int) 0 (l0.length:Int)
theorem slices_BinarySearch_string_string.mono_l:∀ k,(∀ y0 y1 y2 y3 y4,LeO (slices_BinarySearch_string_string.l0 k y0 y1 y2 y3 y4) (slices_BinarySearch_string_string.l0 (k+1) y0 y1 y2 y3 y4))
 | 0=>fun _ _ _ _ _ r h=>by simp [slices_BinarySearch_string_string.l0] at h
 | k+1=>by
  have ih0:=slices_BinarySearch_string_string.mono_l k
  ·intro y0 y1 y2 y3 y4
   unfold slices_BinarySearch_string_string.l0
   repeat' first
   | (with_reducible exact ih0 _ _ _ _ _)
   | (with_reducible exact LeO.refl _)
   | (with_reducible exact LeO.none _)
   | (with_reducible refine LeO.ite ?_ ?_)
   | (with_reducible refine LeO.bind ?_ (fun _=>?_))
   | exact ih0 _ _ _ _ _
   | exact LeO.none _
   | refine LeO.ite ?_ ?_
   | refine LeO.bind ?_ (fun _=>?_)
theorem slices_BinarySearch_string_string.mono:∀ a0 a1 k,LeO (slices_BinarySearch_string_string.f k a0 a1) (slices_BinarySearch_string_string.f (k+1) a0 a1):=by
 intro a0 a1 k
 have ih0:=slices_BinarySearch_string_string.mono_l k
 unfold slices_BinarySearch_string_string.f
 repeat' first
   | (with_reducible exact ih0 _ _ _ _ _)
   | (with_reducible exact LeO.refl _)
   | (with_reducible exact LeO.none _)
   | (with_reducible refine LeO.ite ?_ ?_)
   | (with_reducible refine LeO.bind ?_ (fun _=>?_))
   | exact ih0 _ _ _ _ _
   | exact LeO.none _
   | refine LeO.ite ?_ ?_
   | refine LeO.bind ?_ (fun _=>?_)
set_option maxHeartbeats 8000000 in
set_option maxRecDepth 100000 in
theorem slices_BinarySearch_string_string.calls (k:Nat) (A0:Option Addr) (c0:Nat) (l0:List ByteArray) (a1:ByteArray) (r1:Int) (r2:Bool) (w:World) (hr0:Kd.C Kd.string w A0 l0.length l0) (hc0:l0.length≤c0) (h:slices_BinarySearch_string_string.f k l0 a1=some (r1,r2)) :
  Calls Try.prog 69 #[.slice A0 l0.length c0,.string a1] w fun e w'=>e=.returned (.tuple #[.int .i64 r1,.bool r2])∧Drawn0 w w':=by
 have HR0:=Aside0.mk hr0
 have HC0:=Aside0.mk hc0
 clear hr0 hc0
 have H:(slices_BinarySearch_string_string.l0 k l0 a1 (l0.length:Int) 0 (l0.length:Int))=some (r1,r2):=h
 clear h
 have H':=Aside0.mk H
 clear H
 go_enter Try.func69,Try.ntmps69
 go_wp2
 go_loopg [7,8] k (fun kq v7 v8 w'=>∃ (x7_1:Int) (x8_1:Int),v7=.int .i64 x7_1∧v8=.int .i64 x8_1∧Aside0 (slices_BinarySearch_string_string.l0 kq l0 a1 (l0.length:Int) x7_1 x8_1=some (r1,r2))∧Aside0 (kq≤k)∧Drawn0 w w')
 case atStart=>exact ⟨(0),((l0.length:Int)),(by first|rfl|(simp;done)|(simp [*];done)),(by first|rfl|(simp;done)|(simp [*];done)),H',⟨Nat.le_refl _⟩,by repeat (first|exact Drawn0.refl _|apply Drawn0.step)⟩
 case round =>
  clear H'
  try clear p2
  obtain ⟨x7_1,x8_1,rfl,rfl,HA,HK1,⟨m1,rfl⟩⟩:=hrel
  cases gk with
  | zero=>exact absurd HA.out (by simp [slices_BinarySearch_string_string.l0])
  | succ k1 =>
   have H:=HA.out
   clear HA
   simp only [slices_BinarySearch_string_string.l0] at H
   by_cases c3:x7_1 < x8_1
   ·rw [if_pos c3] at H
    have c3b0:decide (x7_1 < x8_1)=true:=decide_eq_true c3
    clear c3
    obtain ⟨ji4,hji4⟩:∃ j_:Int,(wrap64 ((IntKind.u64.wrap (wrap64 (x7_1+x8_1))) / 2))=j_:=⟨_,rfl⟩
    replace H:(if 0≤(ji4) then (if (ji4) < (l0.length:Int) then ((cmp_Less_string.f (rdOf ByteArray.empty l0 (ji4)) a1).bind fun t506=>(if t506=true then (slices_BinarySearch_string_string.l0 k1 l0 a1 (l0.length:Int) (wrap64 ((ji4)+1)) x8_1) else (slices_BinarySearch_string_string.l0 k1 l0 a1 (l0.length:Int) x7_1 ji4))) else (none)) else (none))=some (r1,r2):=by first|(rw [hji4] at H;exact H)|(simp only [hji4] at H ⊢;exact H)
    have hji4w:(IntKind.i64.wrap ((IntKind.u64.wrap (wrap64 (x7_1+x8_1))) / 2))=ji4:=(i64_w _).trans hji4
    by_cases c5:0≤(ji4)
    ·rw [if_pos c5] at H
     have c5b0:decide (0≤(ji4))=true:=decide_eq_true c5
     clear c5
     by_cases c6:(ji4) < (l0.length:Int)
     ·rw [if_pos c6] at H
      have c6b0:decide ((ji4) < (l0.length:Int))=true:=decide_eq_true c6
      clear c6
      replace H:=Option.bind_eq_some_iff.mp H
      obtain ⟨t506,A70,H⟩:=H
      replace H:(if t506=true then (slices_BinarySearch_string_string.l0 k1 l0 a1 (l0.length:Int) (wrap64 ((ji4)+1)) x8_1) else (slices_BinarySearch_string_string.l0 k1 l0 a1 (l0.length:Int) x7_1 ji4))=some (r1,r2):=H
      have A7:=Aside0.mk A70
      clear A70
      by_cases c8:t506=true
      ·subst c8
       have H1:(slices_BinarySearch_string_string.l0 k1 l0 a1 (l0.length:Int) (wrap64 ((ji4)+1)) x8_1)=some (r1,r2):=by rw [if_pos rfl] at H;exact H
       clear H
       have H:=H1
       clear H1
       have H':=Aside0.mk H
       clear H
       have p505:0≤((ji4):Int):=of_decide_eq_true (by first|(with_reducible assumption)|assumption)
       have q505:(ji4) < (l0.length:Int):=of_decide_eq_true (by first|(with_reducible assumption)|assumption)
       obtain ⟨ad505,e505,hx505_0⟩:=Kd.at_string HR0.out (ji4) p505 q505
       cases e505
       replace p505:=eq_true p505
       replace q505:=eq_true q505
       go_wp2_with (first|((with_reducible refine gate_callee (f:=72) rfl ?_);refine goesL_ (some 27) rfl rfl Try.func72 (by kernel_rfl) rfl #[.string (rdOf ByteArray.empty l0 (ji4)),.string a1] rfl (by (try simp only [List.map_toArray,List.map_cons,List.map_nil]);first|done|(simp only [hji4];rfl)|rfl|(simp only [List.length_drop,List.length_take];rfl)) ?_;(with_reducible refine (cmp_Less_string.calls (rdOf ByteArray.empty l0 (ji4)) a1 true _ A7.out).mono ?_);rintro e w' ⟨rfl,⟨nd,rfl⟩⟩;refine ⟨_,rfl,?_⟩))
       go_roundg k1
       case measure=>have:=HK1.out;omega
       case rel=>exact ⟨(wrap64 ((ji4)+1)),(x8_1),(by first|rfl|(simp;done)|(simp only [← hji4] <;> (first|rfl|simp))|(simp [*];done)),(by first|rfl|(simp;done)|(simp [*];done)),H',⟨by have:=HK1.out;omega⟩,by repeat (first|exact Drawn0.refl _|apply Drawn0.step)⟩
      ·replace c8:=Bool.eq_false_iff.mpr c8
       subst c8
       have H1:(slices_BinarySearch_string_string.l0 k1 l0 a1 (l0.length:Int) x7_1 ji4)=some (r1,r2):=by rw [if_neg (show ¬ (false=true) by decide)] at H;exact H
       clear H
       have H:=H1
       clear H1
       have H':=Aside0.mk H
       clear H
       have p505:0≤((ji4):Int):=of_decide_eq_true (by first|(with_reducible assumption)|assumption)
       have q505:(ji4) < (l0.length:Int):=of_decide_eq_true (by first|(with_reducible assumption)|assumption)
       obtain ⟨ad505,e505,hx505_0⟩:=Kd.at_string HR0.out (ji4) p505 q505
       cases e505
       replace p505:=eq_true p505
       replace q505:=eq_true q505
       go_wp2_with (first|((with_reducible refine gate_callee (f:=72) rfl ?_);refine goesL_ (some 27) rfl rfl Try.func72 (by kernel_rfl) rfl #[.string (rdOf ByteArray.empty l0 (ji4)),.string a1] rfl (by (try simp only [List.map_toArray,List.map_cons,List.map_nil]);first|done|(simp only [hji4];rfl)|rfl|(simp only [List.length_drop,List.length_take];rfl)) ?_;(with_reducible refine (cmp_Less_string.calls (rdOf ByteArray.empty l0 (ji4)) a1 false _ A7.out).mono ?_);rintro e w' ⟨rfl,⟨nd,rfl⟩⟩;refine ⟨_,rfl,?_⟩))
       go_roundg k1
       case measure=>have:=HK1.out;omega
       case rel=>exact ⟨(x7_1),(ji4),(by first|rfl|(simp;done)|(simp [*];done)),(by first|rfl|(simp;done)|(simp only [← hji4] <;> (first|rfl|simp))|(simp [*];done)),H',⟨by have:=HK1.out;omega⟩,by repeat (first|exact Drawn0.refl _|apply Drawn0.step)⟩
     ·rw [if_neg c6] at H
      exact absurd H (by simp)
    ·rw [if_neg c5] at H
     exact absurd H (by simp)
   ·rw [if_neg c3] at H
    have c3b0:decide (x7_1 < x8_1)=false:=decide_eq_false c3
    clear c3
    by_cases c9:x7_1 < (l0.length:Int)
    ·rw [if_pos c9] at H
     have c9b0:decide (x7_1 < (l0.length:Int))=true:=decide_eq_true c9
     clear c9
     by_cases c10:0≤x7_1
     ·rw [if_pos c10] at H
      have c10b0:decide (0≤x7_1)=true:=decide_eq_true c10
      clear c10
      by_cases c11:x7_1 < (l0.length:Int)
      ·rw [if_pos c11] at H
       have c11b0:decide (x7_1 < (l0.length:Int))=true:=decide_eq_true c11
       clear c11
       by_cases c12:(rdOf ByteArray.empty l0 x7_1).toList=a1.toList
       ·rw [if_pos c12] at H
        have c12b0:((rdOf ByteArray.empty l0 x7_1).toList == a1.toList)=true:=beq_iff_eq.mpr c12
        have c12b1:((rdOf ByteArray.empty l0 x7_1).toList != a1.toList)=false:=bne_eq_false_iff_eq.mpr c12
        clear c12
        simp only [Option.some.injEq,Prod.mk.injEq] at H
        obtain ⟨rfl,rfl⟩:=H
        have p507:0≤(x7_1:Int):=of_decide_eq_true (by first|(with_reducible assumption)|assumption)
        have q507:x7_1 < (l0.length:Int):=of_decide_eq_true (by first|(with_reducible assumption)|assumption)
        obtain ⟨ad507,e507,hx507_0⟩:=Kd.at_string HR0.out x7_1 p507 q507
        cases e507
        replace p507:=eq_true p507
        replace q507:=eq_true q507
        go_wp2
        go_ret2
        exact ⟨by first|rfl|(simp;done)|(simp [*];done),by repeat (first|exact Drawn0.refl _|apply Drawn0.step)⟩
       ·rw [if_neg c12] at H
        have c12b0:((rdOf ByteArray.empty l0 x7_1).toList == a1.toList)=false:=beq_eq_false_iff_ne.mpr c12
        have c12b1:((rdOf ByteArray.empty l0 x7_1).toList != a1.toList)=true:=bne_iff_ne.mpr c12
        replace H:=Option.bind_eq_some_iff.mp H
        obtain ⟨t509,A130,H⟩:=H
        replace H:(if t509=true then ((slices_isNaN_string.f a1).bind fun t510=>(some (x7_1,t510))) else (some (x7_1,false)))=some (r1,r2):=H
        have A13:=Aside0.mk A130
        clear A130
        by_cases c14:t509=true
        ·subst c14
         have H1:((slices_isNaN_string.f a1).bind fun t510=>(some (x7_1,t510)))=some (r1,r2):=by rw [if_pos rfl] at H;exact H
         clear H
         have H:=H1
         clear H1
         replace H:=Option.bind_eq_some_iff.mp H
         obtain ⟨t510,A150,H⟩:=H
         replace H:(some (x7_1,t510))=some (r1,r2):=H
         have A15:=Aside0.mk A150
         clear A150
         simp only [Option.some.injEq,Prod.mk.injEq] at H
         obtain ⟨rfl,rfl⟩:=H
         have p507:0≤(x7_1:Int):=of_decide_eq_true (by first|(with_reducible assumption)|assumption)
         have q507:x7_1 < (l0.length:Int):=of_decide_eq_true (by first|(with_reducible assumption)|assumption)
         obtain ⟨ad507,e507,hx507_0⟩:=Kd.at_string HR0.out x7_1 p507 q507
         cases e507
         replace p507:=eq_true p507
         replace q507:=eq_true q507
         have p508:0≤(x7_1:Int):=of_decide_eq_true (by first|(with_reducible assumption)|assumption)
         have q508:x7_1 < (l0.length:Int):=of_decide_eq_true (by first|(with_reducible assumption)|assumption)
         obtain ⟨ad508,e508,hx508_0⟩:=Kd.at_string HR0.out x7_1 p508 q508
         obtain rfl:ad507=ad508:=(by injection e508)
         replace p508:=eq_true p508
         replace q508:=eq_true q508
         go_wp2_with (first|(go_at_call 73;(with_reducible refine (slices_isNaN_string.calls (rdOf ByteArray.empty l0 x7_1) true _ A13.out).mono ?_);rintro e w' ⟨rfl,⟨nd,rfl⟩⟩)|(go_at_call 73;(with_reducible refine (slices_isNaN_string.calls a1 t510 _ A15.out).mono ?_);rintro e w' ⟨rfl,⟨nd,rfl⟩⟩))
         go_ret2
         exact ⟨by first|rfl|(simp;done)|(simp [*];done),by repeat (first|exact Drawn0.refl _|apply Drawn0.step)⟩
        ·replace c14:=Bool.eq_false_iff.mpr c14
         subst c14
         have H1:(some (x7_1,false))=some (r1,r2):=by rw [if_neg (show ¬ (false=true) by decide)] at H;exact H
         clear H
         have H:=H1
         clear H1
         simp only [Option.some.injEq,Prod.mk.injEq] at H
         obtain ⟨rfl,rfl⟩:=H
         have p507:0≤(x7_1:Int):=of_decide_eq_true (by first|(with_reducible assumption)|assumption)
         have q507:x7_1 < (l0.length:Int):=of_decide_eq_true (by first|(with_reducible assumption)|assumption)
         obtain ⟨ad507,e507,hx507_0⟩:=Kd.at_string HR0.out x7_1 p507 q507
         cases e507
         replace p507:=eq_true p507
         replace q507:=eq_true q507
         have p508:0≤(x7_1:Int):=of_decide_eq_true (by first|(with_reducible assumption)|assumption)
         have q508:x7_1 < (l0.length:Int):=of_decide_eq_true (by first|(with_reducible assumption)|assumption)
         obtain ⟨ad508,e508,hx508_0⟩:=Kd.at_string HR0.out x7_1 p508 q508
         obtain rfl:ad507=ad508:=(by injection e508)
         replace p508:=eq_true p508
         replace q508:=eq_true q508
         go_wp2_with (first|(go_at_call 73;(with_reducible refine (slices_isNaN_string.calls (rdOf ByteArray.empty l0 x7_1) false _ A13.out).mono ?_);rintro e w' ⟨rfl,⟨nd,rfl⟩⟩))
         go_ret2
         exact ⟨by first|rfl|(simp;done)|(simp [*];done),by repeat (first|exact Drawn0.refl _|apply Drawn0.step)⟩
      ·rw [if_neg c11] at H
       exact absurd H (by simp)
     ·rw [if_neg c10] at H
      exact absurd H (by simp)
    ·rw [if_neg c9] at H
     have c9b0:decide (x7_1 < (l0.length:Int))=false:=decide_eq_false c9
     clear c9
     simp only [Option.some.injEq,Prod.mk.injEq] at H
     obtain ⟨rfl,rfl⟩:=H
     go_wp2
     go_ret2
     exact ⟨by first|rfl|(simp;done)|(simp [*];done),by repeat (first|exact Drawn0.refl _|apply Drawn0.step)⟩
end Go.Proofs.Ytoihiehoolehiaa.PX
namespace Go.Proofs.Ytoihiehoolehiaa.PX
open Go.RowKit Go.Proofs.YtoihiehoolehiaaW.PrintWords Go.Proofs.YtoihiehoolehiaaW.PrintLast Go.Proofs.YtoihiehoolehiaaW.PrintMore
attribute [local go_sem] max2_int min2_int max_two min_two max_three min_three max_four min_four   
set_option linter.unusedVariables false
set_option linter.unusedSimpArgs false
attribute [local go_sem] run_field_87_0
def names_set_string_only.l0:Nat→Bool→List ByteArray→List ByteArray→Int→Int→List ByteArray→Option (List ByteArray)
 | 0,_,_,_,_,_,_=>none
 | k+1,x2,x7,x13,x14,x15,x513000=>if x15 < x14 then (if 0≤x15 then (if x15 < (x13.length:Int) then ((slices_BinarySearch_string_string.f k x513000 (rdOf ByteArray.empty x13 x15)).bind fun bt515=>(if (bt515.2 == x2)=true then (if x7.length < 8796093022208 then (names_set_string_only.l0 k x2 (x7 ++ [rdOf ByteArray.empty x13 x15]) x13 x14 (wrap64 (x15+1)) x513000) else (none)) else (names_set_string_only.l0 k x2 x7 x13 x14 (wrap64 (x15+1)) x513000))) else (none)) else (none)) else ((names_of_string.f x7).bind fun t520=>(some t520))
def names_set_string_only.f (k:Nat) (l0_0:List ByteArray) (l1_0:List ByteArray) (a2:Bool):Option (List ByteArray):=names_set_string_only.l0 k a2 ([]:List ByteArray) l0_0 (l0_0.length:Int) 0 l1_0
theorem names_set_string_only.mono_l:∀ k,(∀ y0 y1 y2 y3 y4 y5,LeO (names_set_string_only.l0 k y0 y1 y2 y3 y4 y5) (names_set_string_only.l0 (k+1) y0 y1 y2 y3 y4 y5))
 | 0=>fun _ _ _ _ _ _ r h=>by simp [names_set_string_only.l0] at h
 | k+1=>by
  have ih0:=names_set_string_only.mono_l k
  ·intro y0 y1 y2 y3 y4 y5
   unfold names_set_string_only.l0
   repeat' first
   | (with_reducible exact ih0 _ _ _ _ _ _)
   | (with_reducible exact slices_BinarySearch_string_string.mono _ _ _)
   | (with_reducible exact LeO.refl _)
   | (with_reducible exact LeO.none _)
   | (with_reducible refine LeO.ite ?_ ?_)
   | (with_reducible refine LeO.bind ?_ (fun _=>?_))
   | exact ih0 _ _ _ _ _ _
   | exact slices_BinarySearch_string_string.mono _ _ _
   | exact LeO.none _
   | refine LeO.ite ?_ ?_
   | refine LeO.bind ?_ (fun _=>?_)
theorem names_set_string_only.mono:∀ a0 a1 a2 k,LeO (names_set_string_only.f k a0 a1 a2) (names_set_string_only.f (k+1) a0 a1 a2):=by
 intro a0 a1 a2 k
 have ih0:=names_set_string_only.mono_l k
 unfold names_set_string_only.f
 repeat' first
   | (with_reducible exact ih0 _ _ _ _ _ _)
   | (with_reducible exact slices_BinarySearch_string_string.mono _ _ _)
   | (with_reducible exact LeO.refl _)
   | (with_reducible exact LeO.none _)
   | (with_reducible refine LeO.ite ?_ ?_)
   | (with_reducible refine LeO.bind ?_ (fun _=>?_))
   | exact ih0 _ _ _ _ _ _
   | exact slices_BinarySearch_string_string.mono _ _ _
   | exact LeO.none _
   | refine LeO.ite ?_ ?_
   | refine LeO.bind ?_ (fun _=>?_)
set_option maxHeartbeats 8000000 in
set_option maxRecDepth 100000 in
theorem names_set_string_only.calls (k:Nat) (A0_0:Option Addr) (c0_0:Nat) (l0_0:List ByteArray) (A1_0:Option Addr) (c1_0:Nat) (l1_0:List ByteArray) (a2:Bool) (r:List ByteArray) (w:World) (hr0_0:Kd.C Kd.string w A0_0 l0_0.length l0_0) (hc0_0:l0_0.length≤c0_0) (hr1_0:Kd.C Kd.string w A1_0 l1_0.length l1_0) (hc1_0:l1_0.length≤c1_0) (h:names_set_string_only.f k l0_0 l1_0 a2=some r) :
  Calls Try.prog 63 #[.agg #[.slice A0_0 l0_0.length c0_0],.agg #[.slice A1_0 l1_0.length c1_0],.bool a2] w fun e w'=>∃ v0_:Value,e=.returned (.agg #[v0_])∧Kd.R Kd.string 9 w' w.heap.size (fun _=>True) v0_ r∧Below w.heap.size w w':=by
 have hu87:=Try.underlying87
 have HR0_0:=Aside0.mk hr0_0
 have HC0_0:=Aside0.mk hc0_0
 clear hr0_0 hc0_0
 have HR1_0:=Aside0.mk hr1_0
 have HC1_0:=Aside0.mk hc1_0
 clear hr1_0 hc1_0
 have HB:=Aside0.mk (Below.refl w.heap.size w)
 have H:(names_set_string_only.l0 k a2 ([]:List ByteArray) l0_0 (l0_0.length:Int) 0 l1_0)=some r:=h
 clear h
 have H':=Aside0.mk H
 clear H
 go_enter Try.func63,Try.ntmps63
 go_wp2_with (first|((with_reducible refine gate_dst (N:=3) rfl ?_);refine box_event ?hg (N:=3) ?hd (cs:=#[.slice A0_0 l0_0.length c0_0]) (t:=87) ?hr ?_;(case hd=>rfl);(case hg=>rfl);(case hr=>first|(go_simp;done)|(go_simp;rfl));intro gb511 hg w4 hbox hb;have n0_:=Aside0.mk (below_step (by repeat (first|(with_reducible first|exact HB.out|apply bA_|apply bN_|apply bD_)|exact HB.out)) hb);have n1_:=Aside0.mk (hbox);have n2_:=Aside0.mk ((by rw [hg];exact (below_size (by repeat (first|(with_reducible first|exact HB.out|apply bA_|apply bN_|apply bD_)|exact HB.out))):w.heap.size≤gb511));have n3_:=Aside0.mk ((by rw [hg];exact (below_size (by repeat (first|(with_reducible first|exact HB.out|apply bA_|apply bN_|apply bD_)|exact HB.out))):w.heap.size≤gb511));clear HB;have HB:=n0_;have BK511:=n1_;have GW511:=n2_;have GE511:=n3_;clear n0_ n1_ n2_ n3_;clear hb hbox hg)|((with_reducible refine gate_dst (N:=4) rfl ?_);refine box_event ?hg (N:=4) ?hd (cs:=#[.slice A1_0 l1_0.length c1_0]) (t:=87) ?hr ?_;(case hd=>rfl);(case hg=>rfl);(case hr=>first|(go_simp;done)|(go_simp;rfl));intro gb512 hg w5 hbox hb;have n0_:=Aside0.mk (blk_below (g:=gb511) (o:=.cells #[.slice A0_0 l0_0.length c0_0] 87 (0,0)) (by (with_reducible repeat (first|refine blk_drewN ?_ _|refine blk_drew ?_|refine blk_alloc ?_ _));exact BK511.out) hb);have n1_:=Aside0.mk (below_step (by repeat (first|(with_reducible first|exact HB.out|apply bA_|apply bN_|apply bD_|refine below_set ?_ GE511.out)|exact HB.out)) hb);have n2_:=Aside0.mk (hbox);have n3_:=Aside0.mk ((by rw [hg];exact (below_size (by repeat (first|(with_reducible first|exact HB.out|apply bA_|apply bN_|apply bD_|refine below_set ?_ GE511.out)|exact HB.out))):w.heap.size≤gb512));have n4_:=Aside0.mk ((by rw [hg];exact (below_size (by repeat (first|(with_reducible first|exact HB.out|apply bA_|apply bN_|apply bD_|refine below_set ?_ GE511.out)|exact HB.out))):w.heap.size≤gb512));have n5_:=Aside0.mk ((by rw [hg];exact Nat.ne_of_lt (blk_lt (g:=gb511) (o:=.cells #[.slice A0_0 l0_0.length c0_0] 87 (0,0)) (by (with_reducible repeat (first|refine blk_drewN ?_ _|refine blk_drew ?_|refine blk_alloc ?_ _));exact BK511.out)):gb511≠gb512));have n6_:=Aside0.mk ((by rw [hg];exact Nat.ne_of_gt (blk_lt (g:=gb511) (o:=.cells #[.slice A0_0 l0_0.length c0_0] 87 (0,0)) (by (with_reducible repeat (first|refine blk_drewN ?_ _|refine blk_drew ?_|refine blk_alloc ?_ _));exact BK511.out)):gb512≠gb511));clear BK511;clear HB;have BK511:=n0_;have HB:=n1_;have BK512:=n2_;have GW512:=n3_;have GE512:=n4_;have NB511_512:=n5_;have NB512_511:=n6_;clear n0_ n1_ n2_ n3_ n4_ n5_ n6_;clear hb hbox hg)|((with_reducible refine gate_dst (N:=6) rfl ?_);refine box_event ?hg (N:=6) ?hd (cs:=#[.slice none 0 0]) (t:=87) ?hr ?_;(case hd=>rfl);(case hg=>rfl);(case hr=>first|(go_simp;done)|(go_simp;rfl));intro gb513 hg w6 hbox hb;have n0_:=Aside0.mk (blk_below (g:=gb511) (o:=.cells #[.slice A0_0 l0_0.length c0_0] 87 (0,0)) (by (with_reducible repeat (first|refine blk_drewN ?_ _|refine blk_drew ?_|refine blk_alloc ?_ _));exact BK511.out) hb);have n1_:=Aside0.mk (blk_below (g:=gb512) (o:=.cells #[.slice A1_0 l1_0.length c1_0] 87 (0,0)) (by (with_reducible repeat (first|refine blk_drewN ?_ _|refine blk_drew ?_|refine blk_alloc ?_ _));exact BK512.out) hb);have n2_:=Aside0.mk (below_step (by repeat (first|(with_reducible first|exact HB.out|apply bA_|apply bN_|apply bD_|refine below_set ?_ GE511.out|refine below_set ?_ GE512.out)|exact HB.out)) hb);have n3_:=Aside0.mk (hbox);have n4_:=Aside0.mk ((by rw [hg];exact (below_size (by repeat (first|(with_reducible first|exact HB.out|apply bA_|apply bN_|apply bD_|refine below_set ?_ GE511.out|refine below_set ?_ GE512.out)|exact HB.out))):w.heap.size≤gb513));have n5_:=Aside0.mk ((by rw [hg];exact (below_size (by repeat (first|(with_reducible first|exact HB.out|apply bA_|apply bN_|apply bD_|refine below_set ?_ GE511.out|refine below_set ?_ GE512.out)|exact HB.out))):w.heap.size≤gb513));have n6_:=Aside0.mk ((by rw [hg];exact Nat.ne_of_lt (blk_lt (g:=gb511) (o:=.cells #[.slice A0_0 l0_0.length c0_0] 87 (0,0)) (by (with_reducible repeat (first|refine blk_drewN ?_ _|refine blk_drew ?_|refine blk_alloc ?_ _));exact BK511.out)):gb511≠gb513));have n7_:=Aside0.mk ((by rw [hg];exact Nat.ne_of_gt (blk_lt (g:=gb511) (o:=.cells #[.slice A0_0 l0_0.length c0_0] 87 (0,0)) (by (with_reducible repeat (first|refine blk_drewN ?_ _|refine blk_drew ?_|refine blk_alloc ?_ _));exact BK511.out)):gb513≠gb511));have n8_:=Aside0.mk ((by rw [hg];exact Nat.ne_of_lt (blk_lt (g:=gb512) (o:=.cells #[.slice A1_0 l1_0.length c1_0] 87 (0,0)) (by (with_reducible repeat (first|refine blk_drewN ?_ _|refine blk_drew ?_|refine blk_alloc ?_ _));exact BK512.out)):gb512≠gb513));have n9_:=Aside0.mk ((by rw [hg];exact Nat.ne_of_gt (blk_lt (g:=gb512) (o:=.cells #[.slice A1_0 l1_0.length c1_0] 87 (0,0)) (by (with_reducible repeat (first|refine blk_drewN ?_ _|refine blk_drew ?_|refine blk_alloc ?_ _));exact BK512.out)):gb513≠gb512));clear BK511;clear BK512;clear HB;have BK511:=n0_;have BK512:=n1_;have HB:=n2_;have BK513:=n3_;have GW513:=n4_;have GE513:=n5_;have NB511_513:=n6_;have NB513_511:=n7_;have NB512_513:=n8_;have NB513_512:=n9_;clear n0_ n1_ n2_ n3_ n4_ n5_ n6_ n7_ n8_ n9_;clear hb hbox hg;have hnb7:=NB511_512.out;have hnc7:=NB512_511.out;have hnb8:=NB511_513.out;have hnc8:=NB513_511.out;have hcz9_0:w6.cell? ⟨gb511,0,none⟩=some (.slice A0_0 l0_0.length c0_0):=(blk_cell BK511.out 0).trans rfl;have hfz9_0:=blk_frozen BK511.out 0))
 go_loopg [7,15] k (fun kq v7 v15 w'=>∃ (x7_1:List ByteArray) (x15_1:Int),v15=.int .i64 x15_1∧Aside0 (names_set_string_only.l0 kq a2 x7_1 l0_0 (l0_0.length:Int) x15_1 l1_0=some r)∧Aside0 (kq≤k)∧Aside0 (Kd.R Kd.string 9 w' w.heap.size (fun _=>True) v7 x7_1)∧Aside0 (w'.heap[gb511]? = some (.cells #[(.slice A0_0 l0_0.length c0_0)] 87 (0,0)))∧Aside0 (w'.heap[gb512]? = some (.cells #[(.slice A1_0 l1_0.length c1_0)] 87 (0,0)))∧Aside0 (w'.heap[gb513]? = some (.cells #[(.slice none 0 0)] 87 (0,0)))∧Aside0 (Below w.heap.size w w'))
 case atStart=>exact ⟨(([]:List ByteArray)),(0),(by first|rfl|(simp;done)|(simp [*];done)),H',⟨Nat.le_refl _⟩,⟨by first|exact Kd.R_nil _ _ _ _ _|exact Kd.N_nil _ _ _ _ _|exact Kd.V_nil _ _ _ _ _|exact Kd.Q_nil _ _ _ _ _|exact Kd.S_nil _ _ _ _ _⟩,⟨by (with_reducible repeat (first|refine blk_drewN ?_ _|refine blk_drew ?_|refine blk_alloc ?_ _));exact BK511.out⟩,⟨by (with_reducible repeat (first|refine blk_drewN ?_ _|refine blk_drew ?_|refine blk_alloc ?_ _));exact BK512.out⟩,⟨by (with_reducible repeat (first|refine blk_drewN ?_ _|refine blk_drew ?_|refine blk_alloc ?_ _));exact BK513.out⟩,⟨by repeat (first|(with_reducible first|exact HB.out|apply bA_|apply bN_|apply bD_|refine below_set ?_ GE511.out|refine below_set ?_ GE512.out|refine below_set ?_ GE513.out)|exact HB.out)⟩⟩
 case round =>
  clear H'
  try clear c1
  try clear p2
  try clear c6
  try clear c7
  try clear c8
  try clear hcz9_0
  try clear hfz9_0
  obtain ⟨x7_1,x15_1,rfl,HA,HK1,HO_7,BK511,BK512,BK513,HB⟩:=hrel
  cases gk with
  | zero=>exact absurd HA.out (by simp [names_set_string_only.l0])
  | succ k1 =>
   have H:=HA.out
   clear HA
   simp only [names_set_string_only.l0] at H
   by_cases c10:x15_1 < (l0_0.length:Int)
   ·rw [if_pos c10] at H
    have c10b0:decide (x15_1 < (l0_0.length:Int))=true:=decide_eq_true c10
    clear c10
    by_cases c11:0≤x15_1
    ·rw [if_pos c11] at H
     have c11b0:decide (0≤x15_1)=true:=decide_eq_true c11
     clear c11
     by_cases c12:x15_1 < (l0_0.length:Int)
     ·rw [if_pos c12] at H
      have c12b0:decide (x15_1 < (l0_0.length:Int))=true:=decide_eq_true c12
      clear c12
      replace H:=Option.bind_eq_some_iff.mp H
      obtain ⟨⟨t515,t516⟩,A130,H⟩:=H
      replace H:(if (t516 == a2)=true then (if x7_1.length < 8796093022208 then (names_set_string_only.l0 k1 a2 (x7_1 ++ [rdOf ByteArray.empty l0_0 x15_1]) l0_0 (l0_0.length:Int) (wrap64 (x15_1+1)) l1_0) else (none)) else (names_set_string_only.l0 k1 a2 x7_1 l0_0 (l0_0.length:Int) (wrap64 (x15_1+1)) l1_0))=some r:=H
      have A13:=Aside0.mk A130
      clear A130
      by_cases c14:(t516 == a2)=true
      ·rw [if_pos c14] at H
       have c14b0:(t516 == a2)=true:=c14
       (try (have c14b1:decide (t516=a2)=true:=by simpa using c14))
       (try (have c14b2:(t516 == a2)=true:=by simpa using c14))
       clear c14
       by_cases c15:x7_1.length < 8796093022208
       ·rw [if_pos c15] at H
        have LMc15:=Aside0.mk c15
        clear c15
        obtain ⟨y517,hy517⟩:∃ y_:List ByteArray,y_=(x7_1 ++ [rdOf ByteArray.empty l0_0 x15_1]):=⟨_,rfl⟩
        replace H:(names_set_string_only.l0 k1 a2 y517 l0_0 (l0_0.length:Int) (wrap64 (x15_1+1)) l1_0)=some r:=by first|(rw [hy517];with_reducible exact H)|(have H2_:=(Option.bind_some _ _).symm.trans H;rw [hy517];with_reducible exact H2_)|(have H2_:=(Option.bind_some _ _).symm.trans H;with_reducible exact H2_)|with_reducible exact H|(rw [hy517];exact H)|exact H
        have Ny517:=Aside0.mk hy517
        clear hy517
        have H':=Aside0.mk H
        clear H
        have p514:0≤(x15_1:Int):=of_decide_eq_true (by first|(with_reducible assumption)|assumption)
        have q514:x15_1 < (l0_0.length:Int):=of_decide_eq_true (by first|(with_reducible assumption)|assumption)
        obtain ⟨ad514,e514,hx514_0⟩:=Kd.at_string HR0_0.out x15_1 p514 q514
        cases e514
        replace hx514_0:=(HB.out.cell (World.block_lt_of_cell? w _ hx514_0)).trans hx514_0
        replace p514:=eq_true p514
        replace q514:=eq_true q514
        have hnb16:=NB512_511.out
        have hnc16:=NB511_512.out
        have hnb17:=NB512_513.out
        have hnc17:=NB513_512.out
        have hcz18_0:wr.cell? ⟨gb512,0,none⟩=some (.slice A1_0 l1_0.length c1_0):=(blk_cell BK512.out 0).trans rfl
        have hfz18_0:=blk_frozen BK512.out 0
        go_wp2_with (first|((with_reducible refine gate_callee (f:=69) rfl ?_);refine goesL_ (some 23) rfl rfl Try.func69 (by kernel_rfl) rfl #[.slice A1_0 l1_0.length c1_0,.string (rdOf ByteArray.empty l0_0 x15_1)] rfl (by (try simp only [List.map_toArray,List.map_cons,List.map_nil]);first|done|rfl|(simp only [List.length_drop,List.length_take];rfl)) ?_;(with_reducible refine (slices_BinarySearch_string_string.calls k1 _ _ l1_0 (rdOf ByteArray.empty l0_0 x15_1) t515 t516 _ ?side1 ?side2 A13.out).mono ?_);(case side1=>repeat (first|exact (Kd.C_below HR1_0.out HB.out)|(with_reducible refine cA_ ?_ _)|(with_reducible refine cN_ ?_ _)|(with_reducible refine cD_ ?_)));(case side2=>exact HC1_0.out);rintro e w' ⟨rfl,⟨nd,rfl⟩⟩;refine ⟨_,rfl,?_⟩)|((with_reducible refine gate_builtin (b:=.append) (xs:=#[.tmp 29,.tmp 31]) rfl ?_);at_builtin;refine Kd.R_append Kd.string (w0:=w) w.heap.size rfl (.tmp 29) (.tmp 31) 36 9 (.string ⟨#[]⟩) 16 rfl Try.underlying36 info9 rfl (by decide) (by omega) u7 x7_1 (rdOf ByteArray.empty l0_0 x15_1) [.string (rdOf ByteArray.empty l0_0 x15_1)] (fun _=>True) (fun _=>False) rfl rfl ?aP (fun _ hk=>hk.elim) ?aF ?aO ?aB ?aS ?aL ?_;(case aP=>exact rfl);(case aB=>exact (by repeat (first|(with_reducible first|exact HB.out|apply bA_|apply bN_|apply bD_|refine below_set ?_ GE511.out|refine below_set ?_ GE512.out|refine below_set ?_ GE513.out)|exact HB.out)));(case aF=>exact (fun _ _=>trivial));(case aO=>exact (by (with_reducible repeat (first|apply rA_|apply rN_|apply rD_));exact HO_7.out));(case aS=>exact (below_size (by repeat (first|(with_reducible first|exact HB.out|apply bA_|apply bN_|apply bD_|refine below_set ?_ GE511.out|refine below_set ?_ GE512.out|refine below_set ?_ GE513.out)|exact HB.out))));(case aL=>have:=LMc15.out;omega);intro v518 w19 ho hb hg hat;rw [← Ny517.out] at ho;have n0_:=Aside0.mk (blk_grown (g:=gb511) (o:=.cells #[.slice (some ad514) l0_0.length c0_0] 87 (0,0)) (by (with_reducible repeat (first|refine blk_drewN ?_ _|refine blk_drew ?_|refine blk_alloc ?_ _));exact BK511.out) hg (Kd.R_ne HO_7.out BK511.out (by decide)));have n1_:=Aside0.mk (blk_grown (g:=gb512) (o:=.cells #[.slice A1_0 l1_0.length c1_0] 87 (0,0)) (by (with_reducible repeat (first|refine blk_drewN ?_ _|refine blk_drew ?_|refine blk_alloc ?_ _));exact BK512.out) hg (Kd.R_ne HO_7.out BK512.out (by decide)));have n2_:=Aside0.mk (blk_grown (g:=gb513) (o:=.cells #[.slice none 0 0] 87 (0,0)) (by (with_reducible repeat (first|refine blk_drewN ?_ _|refine blk_drew ?_|refine blk_alloc ?_ _));exact BK513.out) hg (Kd.R_ne HO_7.out BK513.out (by decide)));have n3_:=Aside0.mk (hb);have n4_:=Aside0.mk (ho);clear BK511;clear BK512;clear BK513;clear HB;clear HO_7;have BK511:=n0_;have BK512:=n1_;have BK513:=n2_;have HB:=n3_;have HO519:=n4_;clear n0_ n1_ n2_ n3_ n4_;clear ho hb hg hat))
        go_roundg k1
        case measure=>have:=HK1.out;omega
        case rel=>exact ⟨(y517),(wrap64 (x15_1+1)),(by first|rfl|(simp;done)|(simp [*];done)),H',⟨by have:=HK1.out;omega⟩,⟨by (with_reducible repeat (first|apply rA_|apply rN_|apply rD_));exact HO519.out⟩,⟨by (with_reducible repeat (first|refine blk_drewN ?_ _|refine blk_drew ?_|refine blk_alloc ?_ _));exact BK511.out⟩,⟨by (with_reducible repeat (first|refine blk_drewN ?_ _|refine blk_drew ?_|refine blk_alloc ?_ _));exact BK512.out⟩,⟨by (with_reducible repeat (first|refine blk_drewN ?_ _|refine blk_drew ?_|refine blk_alloc ?_ _));exact BK513.out⟩,⟨by repeat (first|(with_reducible first|exact HB.out|apply bA_|apply bN_|apply bD_|refine below_set ?_ GE511.out|refine below_set ?_ GE512.out|refine below_set ?_ GE513.out)|exact HB.out)⟩⟩
       ·rw [if_neg c15] at H
        exact absurd H (by simp)
      ·rw [if_neg c14] at H
       have c14b0:(t516 == a2)=false:=by simpa using c14
       (try (have c14b1:decide (t516=a2)=false:=by simpa using c14))
       (try (have c14b2:(t516 == a2)=false:=by simpa using c14))
       (try (have c14b3:¬ (t516=a2):=by simpa using c14))
       clear c14
       have H':=Aside0.mk H
       clear H
       have p514:0≤(x15_1:Int):=of_decide_eq_true (by first|(with_reducible assumption)|assumption)
       have q514:x15_1 < (l0_0.length:Int):=of_decide_eq_true (by first|(with_reducible assumption)|assumption)
       obtain ⟨ad514,e514,hx514_0⟩:=Kd.at_string HR0_0.out x15_1 p514 q514
       cases e514
       replace hx514_0:=(HB.out.cell (World.block_lt_of_cell? w _ hx514_0)).trans hx514_0
       replace p514:=eq_true p514
       replace q514:=eq_true q514
       have hnb20:=NB512_511.out
       have hnc20:=NB511_512.out
       have hnb21:=NB512_513.out
       have hnc21:=NB513_512.out
       have hcz22_0:wr.cell? ⟨gb512,0,none⟩=some (.slice A1_0 l1_0.length c1_0):=(blk_cell BK512.out 0).trans rfl
       have hfz22_0:=blk_frozen BK512.out 0
       go_wp2_with (first|((with_reducible refine gate_callee (f:=69) rfl ?_);refine goesL_ (some 23) rfl rfl Try.func69 (by kernel_rfl) rfl #[.slice A1_0 l1_0.length c1_0,.string (rdOf ByteArray.empty l0_0 x15_1)] rfl (by (try simp only [List.map_toArray,List.map_cons,List.map_nil]);first|done|rfl|(simp only [List.length_drop,List.length_take];rfl)) ?_;(with_reducible refine (slices_BinarySearch_string_string.calls k1 _ _ l1_0 (rdOf ByteArray.empty l0_0 x15_1) t515 t516 _ ?side1 ?side2 A13.out).mono ?_);(case side1=>repeat (first|exact (Kd.C_below HR1_0.out HB.out)|(with_reducible refine cA_ ?_ _)|(with_reducible refine cN_ ?_ _)|(with_reducible refine cD_ ?_)));(case side2=>exact HC1_0.out);rintro e w' ⟨rfl,⟨nd,rfl⟩⟩;refine ⟨_,rfl,?_⟩))
       go_roundg k1
       case measure=>have:=HK1.out;omega
       case rel=>exact ⟨(x7_1),(wrap64 (x15_1+1)),(by first|rfl|(simp;done)|(simp [*];done)),H',⟨by have:=HK1.out;omega⟩,⟨by (with_reducible repeat (first|apply rA_|apply rN_|apply rD_));exact HO_7.out⟩,⟨by (with_reducible repeat (first|refine blk_drewN ?_ _|refine blk_drew ?_|refine blk_alloc ?_ _));exact BK511.out⟩,⟨by (with_reducible repeat (first|refine blk_drewN ?_ _|refine blk_drew ?_|refine blk_alloc ?_ _));exact BK512.out⟩,⟨by (with_reducible repeat (first|refine blk_drewN ?_ _|refine blk_drew ?_|refine blk_alloc ?_ _));exact BK513.out⟩,⟨by repeat (first|(with_reducible first|exact HB.out|apply bA_|apply bN_|apply bD_|refine below_set ?_ GE511.out|refine below_set ?_ GE512.out|refine below_set ?_ GE513.out)|exact HB.out)⟩⟩
     ·rw [if_neg c12] at H
      exact absurd H (by simp)
    ·rw [if_neg c11] at H
     exact absurd H (by simp)
   ·rw [if_neg c10] at H
    have c10b0:decide (x15_1 < (l0_0.length:Int))=false:=decide_eq_false c10
    clear c10
    replace H:=Option.bind_eq_some_iff.mp H
    obtain ⟨t520,A230,H⟩:=H
    replace H:(some t520)=some r:=H
    have A23:=Aside0.mk A230
    clear A230
    obtain rfl:=Option.some.inj H
    obtain ⟨Ao24,co24,eo24⟩:=Kd.R_slice HO_7.out
    subst eo24
    go_wp2_with (first|((with_reducible refine gate_callee (f:=61) rfl ?_);refine goesL_ (some 35) rfl rfl Try.func61 (by kernel_rfl) rfl #[.slice Ao24 x7_1.length co24] rfl (by (try simp only [List.map_toArray,List.map_cons,List.map_nil]);first|done|rfl|(simp only [List.length_drop,List.length_take];rfl)) ?_;(with_reducible refine (names_of_string.calls _ _ x7_1 t520 _ ?side1 ?side2 A23.out).mono ?_);(case side1=>repeat (first|exact (Kd.R_reads' HO_7.out).2.2|(with_reducible refine cA_ ?_ _)|(with_reducible refine cN_ ?_ _)|(with_reducible refine cD_ ?_)));(case side2=>exact (Kd.R_reads' HO_7.out).2.1);rintro e w25 ⟨v521,rfl,ho0,hb⟩;refine ⟨_,rfl,?_⟩;have n0_:=Aside0.mk (Kd.R_elder' (by (with_reducible repeat (first|apply rA_|apply rN_|apply rD_));exact HO_7.out) (Kd.R_base ho0) hb);have n1_:=Aside0.mk (Kd.R_lower (Kd.R_new' ho0 (Kd.R_lt (by (with_reducible repeat (first|apply rA_|apply rN_|apply rD_));exact HO_7.out))) (below_size (by repeat (first|(with_reducible first|exact HB.out|apply bA_|apply bN_|apply bD_|refine below_set ?_ GE511.out|refine below_set ?_ GE512.out|refine below_set ?_ GE513.out)|exact HB.out))));have n2_:=Aside0.mk (blk_below (g:=gb511) (o:=.cells #[.slice A0_0 l0_0.length c0_0] 87 (0,0)) (by (with_reducible repeat (first|refine blk_drewN ?_ _|refine blk_drew ?_|refine blk_alloc ?_ _));exact BK511.out) hb);have n3_:=Aside0.mk (blk_below (g:=gb512) (o:=.cells #[.slice A1_0 l1_0.length c1_0] 87 (0,0)) (by (with_reducible repeat (first|refine blk_drewN ?_ _|refine blk_drew ?_|refine blk_alloc ?_ _));exact BK512.out) hb);have n4_:=Aside0.mk (blk_below (g:=gb513) (o:=.cells #[.slice none 0 0] 87 (0,0)) (by (with_reducible repeat (first|refine blk_drewN ?_ _|refine blk_drew ?_|refine blk_alloc ?_ _));exact BK513.out) hb);have n5_:=Aside0.mk (below_step (by repeat (first|(with_reducible first|exact HB.out|apply bA_|apply bN_|apply bD_|refine below_set ?_ GE511.out|refine below_set ?_ GE512.out|refine below_set ?_ GE513.out)|exact HB.out)) hb);clear HO_7;clear BK511;clear BK512;clear BK513;clear HB;have HO_7:=n0_;have HO522:=n1_;have BK511:=n2_;have BK512:=n3_;have BK513:=n4_;have HB:=n5_;clear n0_ n1_ n2_ n3_ n4_ n5_;(try clear hb);(try clear hb2);(try clear hk);(try clear hi);(try clear ho0);obtain ⟨Ao26,co26,eo26⟩:=Kd.R_slice HO522.out;subst eo26;have hnb27:=NB513_511.out;have hnc27:=NB511_513.out;have hnb28:=NB513_512.out;have hnc28:=NB512_513.out;have hcz29_0:w25.cell? ⟨gb513,0,none⟩=some (.slice none 0 0):=(blk_cell BK513.out 0).trans rfl;have hfz29_0:=blk_frozen BK513.out 0))
    refine bodyPost_ret (results_cell_row rfl _ _ gb513 87 #[.slice Ao26 t520.length co26] (0,0) _ rfl (by (with_reducible repeat (first|refine blk_drewN ?_ _|refine blk_drew ?_|refine blk_alloc ?_ _));refine blk_put (cs:=#[.slice none 0 0]) ?_ 0 _ rfl;(with_reducible repeat (first|refine blk_drewN ?_ _|refine blk_drew ?_|refine blk_alloc ?_ _));exact BK513.out) Try.underlying87 rfl (by kernel_rfl)) rfl ?_
    exact ⟨_,by first|rfl|(simp [errW_none,errW_some] <;> rfl)|(simp [*,errW_none,errW_some] <;> rfl),by (with_reducible repeat (first|apply rA_|apply rN_|apply rD_));exact Kd.R_mono (Kd.R_far (p:=⟨gb513,0,none⟩) (Kd.R_types HO522.out BK513.out (by decide)) (fun _ hk=>hk.2) (.slice Ao26 t520.length co26)) (fun _ hk=>trivial),by repeat (first|(with_reducible first|exact HB.out|apply bA_|apply bN_|apply bD_|refine below_set ?_ GE511.out|refine below_set ?_ GE512.out|refine below_set ?_ GE513.out)|exact HB.out)⟩
end Go.Proofs.Ytoihiehoolehiaa.PX
