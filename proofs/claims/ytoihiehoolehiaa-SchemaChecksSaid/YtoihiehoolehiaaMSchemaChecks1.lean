/- Texts on the way to 'SchemaChecks', one behind the other (part 1). -/
import Derived.Test.YtoihiehoolehiaaProg
import Derived.Below
import Derived.Deep.Draws
import Derived.Deep.AppendLies
import Derived.Maps.AppendAt
import Derived.OwnWalk
import Derived.Laws.BytesArg
import Derived.Laws.MakeOwn
import Derived.Laws.OwnMore
import Derived.Deep.OwnRows
import Derived.Tactics
import Derived.Lib.ConvBytes
import Derived.Laws.Slices
import Derived.WalkKit
import Derived.KernelRfl
import Derived.RowKit3
import Derived.Deep.LoopGhost
import Derived.Deep.QuietTactic
import Derived.BigQuiet
import Derived.WideLaws
import Derived.Deep.DeepCutAuto
import Derived.Deep.CutBlock
import Derived.Deep.RegionHeld3
import Derived.Laws.Rows
import Derived.Lib.AppendStr
import Derived.ArgAppend
import Derived.Laws.IdiomCopy
import Derived.OrdersHeld
import Derived.Laws.BitsLemmas
import Derived.RowKit
import Derived.Lib.SliceRun
import Derived.Test.YtoihiehoolehiaaMSchemaChecksWWords
import Derived.Test.YtoihiehoolehiaaMSchemaChecksWLast
import Derived.Test.YtoihiehoolehiaaMSchemaChecksWTab
import Derived.Test.YtoihiehoolehiaaMSchemaChecksWQPut
import Derived.Test.YtoihiehoolehiaaMSchemaChecksWApart
import Derived.Test.YtoihiehoolehiaaMSchemaChecksWArr
import Derived.Test.YtoihiehoolehiaaMSchemaChecksWZeros
import Derived.Test.YtoihiehoolehiaaMSchemaChecksWFoot
import Derived.Test.YtoihiehoolehiaaMSchemaChecksWKept
import Derived.Test.YtoihiehoolehiaaMSchemaChecksWShare
import Derived.Test.YtoihiehoolehiaaMSchemaChecksWN
import Derived.Test.YtoihiehoolehiaaMSchemaChecksWRepsOne
import Derived.Test.YtoihiehoolehiaaMSchemaChecksWGuard
import Derived.Test.YtoihiehoolehiaaMSchemaChecksWNEv
import Derived.Test.YtoihiehoolehiaaMSchemaChecksWMore
import Derived.Sort.Walk0
import Derived.Shelf.Abstract
import Derived.Laws.EntriesVeiled
import Derived.Deep.Slices
import Derived.SizedLaws
import Derived.SliceStrings
import Derived.ChangeSame
import Derived.ChangeShapes
import Derived.ChangeAt
import Derived.WideShapes
namespace Go.Proofs.Ytoihiehoolehiaa.PX
open Go.RowKit Go.Proofs.YtoihiehoolehiaaW.PrintWords Go.Proofs.YtoihiehoolehiaaW.PrintLast Go.Proofs.YtoihiehoolehiaaW.PrintMore
attribute [local go_sem] max2_int min2_int max_two min_two max_three min_three max_four min_four   
set_option linter.unusedVariables false
set_option linter.unusedSimpArgs false
def errW : Option Int → Value
  | none => .nilIface
  | some c => .iface 0 (.int .i64 c)
theorem errW_none : errW none = .nilIface := rfl
theorem errW_some (c : Int) : errW (some c) = .iface 0 (.int .i64 c) := rfl
theorem info9 : (Try.prog.info? 9).map (fun i => (i.zero, i.size, i.bytes)) = some (some (.string ⟨#[]⟩), 1, 16) := by kernel_rfl
theorem info33 : (Try.prog.info? 33).map (fun i => (i.zero, i.size, i.bytes)) = some (some (.agg #[(.slice none 0 0), (.bool false), (.bool false)]), 3, 32) := by kernel_rfl
theorem info40 : (Try.prog.info? 40).map (fun i => (i.zero, i.size, i.bytes)) = some (some (.agg #[(.bool false), (.slice none 0 0), (.int .i64 0), (.bool false)]), 4, 48) := by kernel_rfl
structure S38 where
  f0 : Bool
  f1 : (List ByteArray)
def z38 : S38 := ⟨false, ([] : List ByteArray)⟩
def k38 : Kd S38 := Kd.iso (Kd.pair Kd.bool (Kd.slice 9 Kd.string)) (fun x : S38 => (x.f0, x.f1))
theorem k38_open {w : World} {x : S38} {cs : List Value} (h : k38.K w x cs) : ∃ A1 c1, cs = [.bool x.f0, .slice A1 x.f1.length c1] ∧ x.f1.length ≤ c1 ∧ Kd.string.C w A1 x.f1.length x.f1 := by
  obtain ⟨_, _, rfl, rfl, ⟨A1, c1, rfl, l1, g1⟩⟩ := h
  exact ⟨A1, c1, rfl, l1, g1⟩
theorem k38_openM {w : World} {base : Nat} {ok : Nat → Prop} {x : S38} {cs : List Value} (h : k38.M w base ok x cs) : ∃ v1, cs = [.bool x.f0, v1] ∧ Kd.string.R 9 w base ok v1 x.f1 := by
  obtain ⟨_, _, rfl, rfl, ⟨v1, rfl, g1⟩⟩ := h
  exact ⟨v1, rfl, g1⟩
theorem k38_mk (w : World) (x : S38) {A1 : Option Addr} {c1 : Nat} (l1 : x.f1.length ≤ c1) (g1 : Kd.string.C w A1 x.f1.length x.f1) : k38.K w x [.bool x.f0, .slice A1 x.f1.length c1] := ⟨[.bool x.f0], [.slice A1 x.f1.length c1], rfl, rfl, ⟨A1, c1, rfl, l1, g1⟩⟩
theorem k38_mkM (w : World) (base : Nat) (ok : Nat → Prop) (x : S38) {v1 : Value} (g1 : Kd.string.R 9 w base ok v1 x.f1) : k38.M w base ok x [.bool x.f0, v1] := ⟨[.bool x.f0], [v1], rfl, rfl, ⟨v1, rfl, g1⟩⟩
structure S40 where
  f0 : S38
  f1 : Int
  f2 : Bool
def z40 : S40 := ⟨z38, (0 : Int), false⟩
def k40 : Kd S40 := Kd.iso (Kd.pair k38 (Kd.pair (Kd.int .i64) Kd.bool)) (fun x : S40 => (x.f0, x.f1, x.f2))
theorem k40_open {w : World} {x : S40} {cs : List Value} (h : k40.K w x cs) : ∃ A1 c1, cs = [.bool x.f0.f0, .slice A1 x.f0.f1.length c1, .int .i64 x.f1, .bool x.f2] ∧ x.f0.f1.length ≤ c1 ∧ Kd.string.C w A1 x.f0.f1.length x.f0.f1 := by
  obtain ⟨_, _, rfl, s0, ⟨_, _, rfl, rfl, rfl⟩⟩ := h
  obtain ⟨A1, c1, rfl, l1, g1⟩ := k38_open s0
  exact ⟨A1, c1, rfl, l1, g1⟩
theorem k40_openM {w : World} {base : Nat} {ok : Nat → Prop} {x : S40} {cs : List Value} (h : k40.M w base ok x cs) : ∃ v1, cs = [.bool x.f0.f0, v1, .int .i64 x.f1, .bool x.f2] ∧ Kd.string.R 9 w base ok v1 x.f0.f1 := by
  obtain ⟨_, _, rfl, s0, ⟨_, _, rfl, rfl, rfl⟩⟩ := h
  obtain ⟨v1, rfl, g1⟩ := k38_openM s0
  exact ⟨v1, rfl, g1⟩
theorem k40_mk (w : World) (x : S40) {A1 : Option Addr} {c1 : Nat} (l1 : x.f0.f1.length ≤ c1) (g1 : Kd.string.C w A1 x.f0.f1.length x.f0.f1) : k40.K w x [.bool x.f0.f0, .slice A1 x.f0.f1.length c1, .int .i64 x.f1, .bool x.f2] := ⟨[.bool x.f0.f0, .slice A1 x.f0.f1.length c1], [.int .i64 x.f1, .bool x.f2], rfl, (k38_mk w x.f0 l1 g1), ⟨[.int .i64 x.f1], [.bool x.f2], rfl, rfl, rfl⟩⟩
theorem k40_mkM (w : World) (base : Nat) (ok : Nat → Prop) (x : S40) {v1 : Value} (g1 : Kd.string.R 9 w base ok v1 x.f0.f1) : k40.M w base ok x [.bool x.f0.f0, v1, .int .i64 x.f1, .bool x.f2] := ⟨[.bool x.f0.f0, v1], [.int .i64 x.f1, .bool x.f2], rfl, (k38_mkM w base ok x.f0 g1), ⟨[.int .i64 x.f1], [.bool x.f2], rfl, rfl, rfl⟩⟩
def rd_T40 (xs : List S40) (i : Int) : S40 := xs.getD i.toNat z40
theorem at_T40 {w : World} {A : Option Addr} {n : Nat} {xs : List S40} (h : Kd.C k40 w A n xs) (i : Int) (h0 : 0 ≤ i) (h1 : i < n) : ∃ ad A1 c1, A = some ad ∧ w.cell? (ad.add (i.toNat * 4)) = some (.bool (rd_T40 xs i).f0.f0) ∧ w.cell? ⟨(ad.add (i.toNat * 4)).block, (ad.add (i.toNat * 4)).off + 1, none⟩ = some (.slice A1 (rd_T40 xs i).f0.f1.length c1) ∧ w.cell? ⟨(ad.add (i.toNat * 4)).block, (ad.add (i.toNat * 4)).off + 2, none⟩ = some (.int .i64 (rd_T40 xs i).f1) ∧ w.cell? ⟨(ad.add (i.toNat * 4)).block, (ad.add (i.toNat * 4)).off + 3, none⟩ = some (.bool (rd_T40 xs i).f2) ∧ (rd_T40 xs i).f0.f1.length ≤ c1 ∧ Kd.string.C w A1 (rd_T40 xs i).f0.f1.length (rd_T40 xs i).f0.f1 := by
  obtain ⟨ad, c, e, _, hK, hc0⟩ := Kd.C_get h z40 i h0 h1
  have hc : ∀ j u, c[j]? = some u → w.cell? (ad.add (i.toNat * 4 + j)) = some u := hc0
  obtain ⟨A1, c1, rfl, l1, g1⟩ := k40_open hK
  exact ⟨ad, A1, c1, e, hc 0 _ rfl, by rw [← add_field _ _ 1 (by omega)]; exact hc 1 _ rfl, by rw [← add_field _ _ 2 (by omega)]; exact hc 2 _ rfl, by rw [← add_field _ _ 3 (by omega)]; exact hc 3 _ rfl, l1, g1⟩
structure S33 where
  f0 : (List S40)
  f1 : Bool
  f2 : Bool
def z33 : S33 := ⟨([] : List S40), false, false⟩
def k33 : Kd S33 := Kd.iso (Kd.pair (Kd.slice 40 k40) (Kd.pair Kd.bool Kd.bool)) (fun x : S33 => (x.f0, x.f1, x.f2))
theorem k33_open {w : World} {x : S33} {cs : List Value} (h : k33.K w x cs) : ∃ A0 c0, cs = [.slice A0 x.f0.length c0, .bool x.f1, .bool x.f2] ∧ x.f0.length ≤ c0 ∧ k40.C w A0 x.f0.length x.f0 := by
  obtain ⟨_, _, rfl, ⟨A0, c0, rfl, l0, g0⟩, ⟨_, _, rfl, rfl, rfl⟩⟩ := h
  exact ⟨A0, c0, rfl, l0, g0⟩
theorem k33_openM {w : World} {base : Nat} {ok : Nat → Prop} {x : S33} {cs : List Value} (h : k33.M w base ok x cs) : ∃ v0, cs = [v0, .bool x.f1, .bool x.f2] ∧ k40.R 40 w base ok v0 x.f0 := by
  obtain ⟨_, _, rfl, ⟨v0, rfl, g0⟩, ⟨_, _, rfl, rfl, rfl⟩⟩ := h
  exact ⟨v0, rfl, g0⟩
theorem k33_mk (w : World) (x : S33) {A0 : Option Addr} {c0 : Nat} (l0 : x.f0.length ≤ c0) (g0 : k40.C w A0 x.f0.length x.f0) : k33.K w x [.slice A0 x.f0.length c0, .bool x.f1, .bool x.f2] := ⟨[.slice A0 x.f0.length c0], [.bool x.f1, .bool x.f2], rfl, ⟨A0, c0, rfl, l0, g0⟩, ⟨[.bool x.f1], [.bool x.f2], rfl, rfl, rfl⟩⟩
theorem k33_mkM (w : World) (base : Nat) (ok : Nat → Prop) (x : S33) {v0 : Value} (g0 : k40.R 40 w base ok v0 x.f0) : k33.M w base ok x [v0, .bool x.f1, .bool x.f2] := ⟨[v0], [.bool x.f1, .bool x.f2], rfl, ⟨v0, rfl, g0⟩, ⟨[.bool x.f1], [.bool x.f2], rfl, rfl, rfl⟩⟩
def rd_T33 (xs : List S33) (i : Int) : S33 := xs.getD i.toNat z33
theorem at_T33 {w : World} {A : Option Addr} {n : Nat} {xs : List S33} (h : Kd.C k33 w A n xs) (i : Int) (h0 : 0 ≤ i) (h1 : i < n) : ∃ ad A0 c0, A = some ad ∧ w.cell? (ad.add (i.toNat * 3)) = some (.slice A0 (rd_T33 xs i).f0.length c0) ∧ w.cell? ⟨(ad.add (i.toNat * 3)).block, (ad.add (i.toNat * 3)).off + 1, none⟩ = some (.bool (rd_T33 xs i).f1) ∧ w.cell? ⟨(ad.add (i.toNat * 3)).block, (ad.add (i.toNat * 3)).off + 2, none⟩ = some (.bool (rd_T33 xs i).f2) ∧ (rd_T33 xs i).f0.length ≤ c0 ∧ k40.C w A0 (rd_T33 xs i).f0.length (rd_T33 xs i).f0 := by
  obtain ⟨ad, c, e, _, hK, hc0⟩ := Kd.C_get h z33 i h0 h1
  have hc : ∀ j u, c[j]? = some u → w.cell? (ad.add (i.toNat * 3 + j)) = some u := hc0
  obtain ⟨A0, c0, rfl, l0, g0⟩ := k33_open hK
  exact ⟨ad, A0, c0, e, hc 0 _ rfl, by rw [← add_field _ _ 1 (by omega)]; exact hc 1 _ rfl, by rw [← add_field _ _ 2 (by omega)]; exact hc 2 _ rfl, l0, g0⟩
structure S53 where
  f0 : ByteArray
  f1 : (List S53)
def z53 : S53 := ⟨(⟨#[]⟩ : ByteArray), ([] : List S53)⟩
def F53 (d : Kd S53) : Kd S53 := Kd.iso (Kd.pair Kd.string (Kd.slice 53 d)) (fun x : S53 => (x.f0, x.f1))
theorem mono53 : Kd.Mono F53 := Kd.mono_iso _ (Kd.mono_pair (Kd.mono_const _) (Kd.mono_slice 53 Kd.mono_id))
theorem sub53 : Kd.Sub F53 [53] := Kd.sub_iso _ (Kd.sub_pair (Kd.sub_const _ (by decide)) (Kd.sub_slice 53 (by decide) Kd.sub_id))
theorem sz53 : ∀ n, (Kd.upto F53 2 [53] n).sz = 2 := Kd.upto_sz (fun _ => rfl)
def k53 : Kd S53 := Kd.fix F53 2 [53] sz53 (Kd.upto_E sub53)
theorem k53_open {w : World} {x : S53} {cs : List Value} (h : k53.K w x cs) : ∃ A1 c1, cs = [.string x.f0, .slice A1 x.f1.length c1] ∧ x.f1.length ≤ c1 ∧ k53.C w A1 x.f1.length x.f1 := by
  obtain ⟨n, h⟩ := h
  cases n with
  | zero => exact h.elim
  | succ n =>
    obtain ⟨_, _, rfl, rfl, ⟨A1, c1, rfl, l1, g1⟩⟩ := h
    exact ⟨A1, c1, rfl, l1, Kd.fix_C g1⟩
theorem k53_mkM (w : World) (base : Nat) (ok : Nat → Prop) (x : S53) {v1 : Value} (g1 : k53.R 53 w base ok v1 x.f1) : k53.M w base ok x [.string x.f0, v1] := by
  obtain ⟨n1, q1⟩ := Kd.fix_R_back mono53 g1
  have r1 := Kd.upto_R_le mono53 sz53 (show n1 ≤ n1 by omega) q1
  exact ⟨n1 + 1, ⟨[.string x.f0], [v1], rfl, rfl, ⟨v1, rfl, r1⟩⟩⟩
def rd_T53 (xs : List S53) (i : Int) : S53 := xs.getD i.toNat z53
theorem at_T53 {w : World} {A : Option Addr} {n : Nat} {xs : List S53} (h : Kd.C k53 w A n xs) (i : Int) (h0 : 0 ≤ i) (h1 : i < n) : ∃ ad A1 c1, A = some ad ∧ w.cell? (ad.add (i.toNat * 2)) = some (.string (rd_T53 xs i).f0) ∧ w.cell? ⟨(ad.add (i.toNat * 2)).block, (ad.add (i.toNat * 2)).off + 1, none⟩ = some (.slice A1 (rd_T53 xs i).f1.length c1) ∧ (rd_T53 xs i).f1.length ≤ c1 ∧ k53.C w A1 (rd_T53 xs i).f1.length (rd_T53 xs i).f1 := by
  obtain ⟨ad, c, e, _, hK, hc0⟩ := Kd.C_get h z53 i h0 h1
  have hc : ∀ j u, c[j]? = some u → w.cell? (ad.add (i.toNat * 2 + j)) = some u := hc0
  obtain ⟨A1, c1, rfl, l1, g1⟩ := k53_open hK
  exact ⟨ad, A1, c1, e, hc 0 _ rfl, by rw [← add_field _ _ 1 (by omega)]; exact hc 1 _ rfl, l1, g1⟩
structure S67 where
  f0 : ByteArray
  f1 : (List S67)
set_option maxRecDepth 100000 in 
theorem run_field_87_0 (v0 : Value) (w : World) : (Instr.field 87 (.agg #[v0]) 0).run Try.prog w = .ok (v0) w := by rfl
abbrev bA_ := @below_alloc
abbrev bN_ := @pw_below_drewN
abbrev bD_ := @below_drew1
abbrev rA_ := @Kd.R_alloc
abbrev rN_ := @Kd.R_drewN
abbrev rD_ := @Kd.R_drew
abbrev cA_ := @Kd.C_alloc
abbrev cN_ := @Kd.C_drewN
abbrev cD_ := @Kd.C_drew
end Go.Proofs.Ytoihiehoolehiaa.PX
set_option linter.unusedVariables false
namespace Go.Proofs.Ytoihiehoolehiaa
open Go.RowKit
abbrev Str:=List UInt8
def ba (l:Str):ByteArray:=⟨l.toArray⟩
end Go.Proofs.Ytoihiehoolehiaa
namespace Go.Proofs.Ytoihiehoolehiaa.PX
open Go.RowKit Go.Proofs.YtoihiehoolehiaaW.PrintWords Go.Proofs.YtoihiehoolehiaaW.PrintLast Go.Proofs.YtoihiehoolehiaaW.PrintMore Go.Proofs.Ytoihiehoolehiaa
def tl (b:ByteArray):Str:=b.data.toList
theorem ba_tl (b:ByteArray):ba (tl b)=b:=by cases b;simp [ba,tl]
theorem tl_ba (s:Str):tl (ba s)=s:=by simp [ba,tl]
theorem map_ba_tl (l:List ByteArray):(l.map tl).map ba=l:=by
 rw [List.map_map]
 have:(ba ∘ tl)=id:=funext fun b=>ba_tl b
 rw [this,List.map_id]
theorem map_tl_ba (l:List Str):(l.map ba).map tl=l:=by
 rw [List.map_map]
 have:(tl ∘ ba)=id:=funext fun b=>tl_ba b
 rw [this,List.map_id]
theorem tl_inj {a b:ByteArray} (h:tl a=tl b):a=b:=by rw [← ba_tl a,← ba_tl b,h]
theorem toList_tl (b:ByteArray):b.toList=tl b:=ByteArray.toList_eq b
theorem less_iff (a b:ByteArray):Op.bytesLess a.toList b.toList=true ↔ tl a < tl b:=by
 rw [toList_tl,toList_tl,Proofs.bytesLess_eq,decide_eq_true_eq]
theorem same_eq (a b:ByteArray):(a.toList == b.toList)=decide (a=b):=by
 rw [toList_tl,toList_tl,Bool.eq_iff_iff,beq_iff_eq,decide_eq_true_eq]
 exact ⟨tl_inj,fun h=>by rw [h]⟩
noncomputable instance (s:ByteArray) (l:List ByteArray):Decidable (s ∈ l):=Classical.propDecidable _
theorem Ev.both {α:Type} {g:Nat→Option α} {r:α} (h:Ev g r):∃ k,g k=some r:=h.rounds
theorem wrap_succ {i:Nat} (h:i < 4611686018427387904):wrap64 ((i:Int)+1)=((i+1:Nat):Int):=by unfold wrap64;omega
theorem wrap_id {i:Int} (h : -4611686018427387904≤i) (h':i≤4611686018427387904):wrap64 i=i:=by unfold wrap64;omega
theorem rdOf_nat {xs:List ByteArray} {i:Nat} (h:i < xs.length):rdOf ByteArray.empty xs (i:Int)=xs[i]:=by
 simp [rdOf,List.getD_eq_getElem?_getD,h]
abbrev Tr:=List S53
def pos:Tr→ByteArray→Nat
 | [],_=>0
 | y :: t,n=>if tl y.f0 < tl n then pos t n+1 else 0
def Sorted (t:Tr):Prop:=t.Pairwise fun x y=>tl x.f0 < tl y.f0
instance (t:Tr):Decidable (Sorted t):=by unfold Sorted;exact inferInstance
end Go.Proofs.Ytoihiehoolehiaa.PX
namespace Go.Proofs.Ytoihiehoolehiaa.PX
open Go.RowKit Go.Proofs.YtoihiehoolehiaaW.PrintWords Go.Proofs.YtoihiehoolehiaaW.PrintLast Go.Proofs.YtoihiehoolehiaaW.PrintMore
attribute [local go_sem] max2_int min2_int max_two min_two max_three min_three max_four min_four   
set_option linter.unusedVariables false
set_option linter.unusedSimpArgs false
attribute [local go_sem] run_field_87_0
def cadencelaw4_within.f (a0:Int) (a1:Int):Option (Int):=if a1=0 then (none) else (if (Int.tmod a0 a1) < 0 then (some (wrap64 ((Int.tmod a0 a1)+a1))) else (some (Int.tmod a0 a1)))
set_option maxHeartbeats 8000000 in
set_option maxRecDepth 100000 in
theorem cadencelaw4_within.calls (a0:Int) (a1:Int) (r:Int) (w:World) (h:cadencelaw4_within.f a0 a1=some r) :
  Calls Try.prog 13 #[.int .i64 a0,.int .i64 a1] w fun e w'=>e=.returned (.int .i64 r)∧Drawn0 w w':=by
 have H:(if a1=0 then (none) else (if (Int.tmod a0 a1) < 0 then (some (wrap64 ((Int.tmod a0 a1)+a1))) else (some (Int.tmod a0 a1))))=some r:=h
 clear h
 by_cases c3:a1=0
 ·rw [if_pos c3] at H
  exact absurd H (by simp)
 ·rw [if_neg c3] at H
  have c3b0:(a1 == 0)=false:=beq_eq_false_iff_ne.mpr c3
  have c3b1:(a1 != 0)=true:=bne_iff_ne.mpr c3
  by_cases c4:(Int.tmod a0 a1) < 0
  ·rw [if_pos c4] at H
   have c4b0:decide ((Int.tmod a0 a1) < 0)=true:=decide_eq_true c4
   clear c4
   obtain rfl:=Option.some.inj H
   go_enter Try.func13,Try.ntmps13
   go_wp2
   go_ret
   exact ⟨by first|rfl|(simp;done)|(simp [*];done),by repeat (first|exact Drawn0.refl _|apply Drawn0.step)⟩
  ·rw [if_neg c4] at H
   have c4b0:decide ((Int.tmod a0 a1) < 0)=false:=decide_eq_false c4
   clear c4
   obtain rfl:=Option.some.inj H
   go_enter Try.func13,Try.ntmps13
   go_wp2
   go_ret
   exact ⟨by first|rfl|(simp;done)|(simp [*];done),by repeat (first|exact Drawn0.refl _|apply Drawn0.step)⟩
end Go.Proofs.Ytoihiehoolehiaa.PX
set_option linter.unusedVariables false
namespace Go.Proofs.Ytoihiehoolehiaa.PX
open Go.RowKit Go.Proofs.YtoihiehoolehiaaW.PrintWords Go.Proofs.YtoihiehoolehiaaW.PrintLast Go.Proofs.YtoihiehoolehiaaW.PrintMore Go.Proofs.Ytoihiehoolehiaa
theorem tmod_in (a:Int) {n:Int} (h0:0 < n) (h1:n≤1000000):∃ r,0≤r∧r < n∧(if Int.tmod a n < 0 then wrap64 (Int.tmod a n+n) else Int.tmod a n)=r:=by
 have h2:=Int.tmod_lt_of_pos a h0
 have h3:=Int.lt_tmod_of_pos a h0
 split
 ·exact ⟨Int.tmod a n+n,by omega,by omega,wrap_id (by omega) (by omega)⟩
 ·exact ⟨_,by omega,h2,rfl⟩
theorem within4 (a:Int) {n:Int} (h0:0 < n) (h1:n≤1000000):∃ r,0≤r∧r < n∧cadencelaw4_within.f a n=some r:=by
 obtain ⟨r,r0,r1,h⟩:=tmod_in a h0 h1
 refine ⟨r,r0,r1,?_⟩
 unfold cadencelaw4_within.f
 rw [if_neg (by omega),← h]
 split <;> rfl
def five:List ByteArray:=[(⟨#[]⟩:ByteArray),(⟨#[97]⟩:ByteArray),(⟨#[98]⟩:ByteArray),(⟨#[99]⟩:ByteArray),(⟨#[100]⟩:ByteArray)]
end Go.Proofs.Ytoihiehoolehiaa.PX
namespace Go.Proofs.Ytoihiehoolehiaa.PX
open Go.RowKit Go.Proofs.YtoihiehoolehiaaW.PrintWords Go.Proofs.YtoihiehoolehiaaW.PrintLast Go.Proofs.YtoihiehoolehiaaW.PrintMore
attribute [local go_sem] max2_int min2_int max_two min_two max_three min_three max_four min_four   
set_option linter.unusedVariables false
set_option linter.unusedSimpArgs false
attribute [local go_sem] run_field_87_0
def slices_Index_string_string.l0:Nat→List ByteArray→ByteArray→Int→Int→Option (Int)
 | 0,_,_,_,_=>none
 | k+1,x0,x1,x7,x8=>if x8 < x7 then (if 0≤x8 then (if x8 < (x0.length:Int) then (if x1.toList=(rdOf ByteArray.empty x0 x8).toList then (some x8) else (slices_Index_string_string.l0 k x0 x1 x7 (wrap64 (x8+1)))) else (none)) else (none)) else (some (-1))
def slices_Index_string_string.f (k:Nat) (l0:List ByteArray) (a1:ByteArray):Option (Int):=slices_Index_string_string.l0 k l0 a1 (l0.length:Int) 0
theorem slices_Index_string_string.mono_l:∀ k,(∀ y0 y1 y2 y3,LeO (slices_Index_string_string.l0 k y0 y1 y2 y3) (slices_Index_string_string.l0 (k+1) y0 y1 y2 y3))
 | 0=>fun _ _ _ _ r h=>by simp [slices_Index_string_string.l0] at h
 | k+1=>by
  have ih0:=slices_Index_string_string.mono_l k
  ·intro y0 y1 y2 y3
   unfold slices_Index_string_string.l0
   repeat' first
   | (with_reducible exact ih0 _ _ _ _)
   | (with_reducible exact LeO.refl _)
   | (with_reducible exact LeO.none _)
   | (with_reducible refine LeO.ite ?_ ?_)
   | (with_reducible refine LeO.bind ?_ (fun _=>?_))
   | exact ih0 _ _ _ _
   | exact LeO.none _
   | refine LeO.ite ?_ ?_
   | refine LeO.bind ?_ (fun _=>?_)
theorem slices_Index_string_string.mono:∀ a0 a1 k,LeO (slices_Index_string_string.f k a0 a1) (slices_Index_string_string.f (k+1) a0 a1):=by
 intro a0 a1 k
 have ih0:=slices_Index_string_string.mono_l k
 unfold slices_Index_string_string.f
 repeat' first
   | (with_reducible exact ih0 _ _ _ _)
   | (with_reducible exact LeO.refl _)
   | (with_reducible exact LeO.none _)
   | (with_reducible refine LeO.ite ?_ ?_)
   | (with_reducible refine LeO.bind ?_ (fun _=>?_))
   | exact ih0 _ _ _ _
   | exact LeO.none _
   | refine LeO.ite ?_ ?_
   | refine LeO.bind ?_ (fun _=>?_)
set_option maxHeartbeats 8000000 in
set_option maxRecDepth 100000 in
theorem slices_Index_string_string.calls (k:Nat) (A0:Option Addr) (c0:Nat) (l0:List ByteArray) (a1:ByteArray) (r:Int) (w:World) (hr0:Kd.C Kd.string w A0 l0.length l0) (hc0:l0.length≤c0) (h:slices_Index_string_string.f k l0 a1=some r) :
  Calls Try.prog 65 #[.slice A0 l0.length c0,.string a1] w fun e w'=>e=.returned (.int .i64 r)∧Drawn0 w w':=by
 have HR0:=Az.mk hr0
 have HC0:=Az.mk hc0
 clear hr0 hc0
 have H:(slices_Index_string_string.l0 k l0 a1 (l0.length:Int) 0)=some r:=h
 clear h
 have H':=Az.mk H
 clear H
 go_enter Try.func65,Try.ntmps65
 go_wp2
 go_loopg [8] k (fun kq v8 w'=>∃ (x8_1:Int),v8=.int .i64 x8_1∧Az (slices_Index_string_string.l0 kq l0 a1 (l0.length:Int) x8_1=some r)∧Az (kq≤k)∧Drawn0 w w')
 case atStart=>exact ⟨(0),(by first|rfl|(simp;done)|(simp [*];done)),H',⟨Nat.le_refl _⟩,by repeat (first|exact Drawn0.refl _|apply Drawn0.step)⟩
 case round =>
  clear H'
  try clear p2
  obtain ⟨x8_1,rfl,HA,HK1,⟨m1,rfl⟩⟩:=hrel
  cases gk with
  | zero=>exact absurd HA.out (by simp [slices_Index_string_string.l0])
  | succ k1 =>
   have H:=HA.out
   clear HA
   simp only [slices_Index_string_string.l0] at H
   by_cases c3:x8_1 < (l0.length:Int)
   ·rw [if_pos c3] at H
    have c3b0:decide (x8_1 < (l0.length:Int))=true:=decide_eq_true c3
    clear c3
    by_cases c4:0≤x8_1
    ·rw [if_pos c4] at H
     have c4b0:decide (0≤x8_1)=true:=decide_eq_true c4
     clear c4
     by_cases c5:x8_1 < (l0.length:Int)
     ·rw [if_pos c5] at H
      have c5b0:decide (x8_1 < (l0.length:Int))=true:=decide_eq_true c5
      clear c5
      by_cases c6:a1.toList=(rdOf ByteArray.empty l0 x8_1).toList
      ·rw [if_pos c6] at H
       have c6b0:(a1.toList == (rdOf ByteArray.empty l0 x8_1).toList)=true:=beq_iff_eq.mpr c6
       have c6b1:(a1.toList != (rdOf ByteArray.empty l0 x8_1).toList)=false:=bne_eq_false_iff_eq.mpr c6
       clear c6
       obtain rfl:=Option.some.inj H
       have p390:0≤(x8_1:Int):=of_decide_eq_true (by first|(with_reducible assumption)|assumption)
       have q390:x8_1 < (l0.length:Int):=of_decide_eq_true (by first|(with_reducible assumption)|assumption)
       obtain ⟨ad390,e390,hx390_0⟩:=Kd.at_string HR0.out x8_1 p390 q390
       cases e390
       replace p390:=eq_true p390
       replace q390:=eq_true q390
       go_wp2
       go_ret
       exact ⟨by first|rfl|(simp;done)|(simp [*];done),by repeat (first|exact Drawn0.refl _|apply Drawn0.step)⟩
      ·rw [if_neg c6] at H
       have c6b0:(a1.toList == (rdOf ByteArray.empty l0 x8_1).toList)=false:=beq_eq_false_iff_ne.mpr c6
       have c6b1:(a1.toList != (rdOf ByteArray.empty l0 x8_1).toList)=true:=bne_iff_ne.mpr c6
       have H':=Az.mk H
       clear H
       have p390:0≤(x8_1:Int):=of_decide_eq_true (by first|(with_reducible assumption)|assumption)
       have q390:x8_1 < (l0.length:Int):=of_decide_eq_true (by first|(with_reducible assumption)|assumption)
       obtain ⟨ad390,e390,hx390_0⟩:=Kd.at_string HR0.out x8_1 p390 q390
       cases e390
       replace p390:=eq_true p390
       replace q390:=eq_true q390
       go_wp2
       go_roundg k1
       case measure=>have:=HK1.out;omega
       case rel=>exact ⟨(wrap64 (x8_1+1)),(by first|rfl|(simp;done)|(simp [*];done)),H',⟨by have:=HK1.out;omega⟩,by repeat (first|exact Drawn0.refl _|apply Drawn0.step)⟩
     ·rw [if_neg c5] at H
      exact absurd H (by simp)
    ·rw [if_neg c4] at H
     exact absurd H (by simp)
   ·rw [if_neg c3] at H
    have c3b0:decide (x8_1 < (l0.length:Int))=false:=decide_eq_false c3
    clear c3
    obtain rfl:=Option.some.inj H
    go_wp2
    go_ret
    exact ⟨by first|rfl|(simp;done)|(simp [*];done),by repeat (first|exact Drawn0.refl _|apply Drawn0.step)⟩
end Go.Proofs.Ytoihiehoolehiaa.PX
namespace Go.Proofs.Ytoihiehoolehiaa.PX
open Go.RowKit Go.Proofs.YtoihiehoolehiaaW.PrintWords Go.Proofs.YtoihiehoolehiaaW.PrintLast Go.Proofs.YtoihiehoolehiaaW.PrintMore
attribute [local go_sem] max2_int min2_int max_two min_two max_three min_three max_four min_four   
set_option linter.unusedVariables false
set_option linter.unusedSimpArgs false
attribute [local go_sem] run_field_87_0
def slices_Contains_string_string.f (k:Nat) (l0:List ByteArray) (a1:ByteArray):Option (Bool):=(slices_Index_string_string.f k l0 a1).bind fun t391=>(some (decide (t391 ≥ 0)))
theorem slices_Contains_string_string.mono:∀ a0 a1 k,LeO (slices_Contains_string_string.f k a0 a1) (slices_Contains_string_string.f (k+1) a0 a1):=by
 intro a0 a1 k
 unfold slices_Contains_string_string.f
 repeat' first
   | (with_reducible exact slices_Index_string_string.mono _ _ _)
   | (with_reducible exact LeO.refl _)
   | (with_reducible exact LeO.none _)
   | (with_reducible refine LeO.ite ?_ ?_)
   | (with_reducible refine LeO.bind ?_ (fun _=>?_))
   | exact slices_Index_string_string.mono _ _ _
   | exact LeO.none _
   | refine LeO.ite ?_ ?_
   | refine LeO.bind ?_ (fun _=>?_)
set_option maxHeartbeats 8000000 in
set_option maxRecDepth 100000 in
theorem slices_Contains_string_string.calls (k:Nat) (A0:Option Addr) (c0:Nat) (l0:List ByteArray) (a1:ByteArray) (r:Bool) (w:World) (hr0:Kd.C Kd.string w A0 l0.length l0) (hc0:l0.length≤c0) (h:slices_Contains_string_string.f k l0 a1=some r) :
  Calls Try.prog 59 #[.slice A0 l0.length c0,.string a1] w fun e w'=>e=.returned (.bool r)∧Drawn0 w w':=by
 have HR0:=Az.mk hr0
 have HC0:=Az.mk hc0
 clear hr0 hc0
 have H:((slices_Index_string_string.f k l0 a1).bind fun t391=>(some (decide (t391 ≥ 0))))=some r:=h
 clear h
 replace H:=Option.bind_eq_some_iff.mp H
 obtain ⟨t391,A30,H⟩:=H
 replace H:(some (decide (t391 ≥ 0)))=some r:=H
 have A3:=Az.mk A30
 clear A30
 obtain rfl:=Option.some.inj H
 go_enter Try.func59,Try.ntmps59
 go_wp2_with (first|((with_reducible refine gate_callee (f:=65) rfl ?_);refine goesL_ (some 7) rfl rfl Try.func65 (by kernel_rfl) rfl #[.slice A0 l0.length c0,.string a1] rfl (by (try simp only [List.map_toArray,List.map_cons,List.map_nil]);first|done|rfl|(simp only [List.length_drop,List.length_take];rfl)) ?_;(with_reducible refine (slices_Index_string_string.calls k _ _ l0 a1 t391 _ ?side1 ?side2 A3.out).mono ?_);(case side1=>repeat (first|exact HR0.out|(with_reducible refine cA_ ?_ _)|(with_reducible refine cN_ ?_ _)|(with_reducible refine cD_ ?_)));(case side2=>exact HC0.out);rintro e w' ⟨rfl,⟨nd,rfl⟩⟩;refine ⟨_,rfl,?_⟩))
 go_ret
 exact ⟨by first|rfl|(simp;done)|(simp [*];done),by repeat (first|exact Drawn0.refl _|apply Drawn0.step)⟩
end Go.Proofs.Ytoihiehoolehiaa.PX
namespace Go.Proofs.Ytoihiehoolehiaa.PX
open Go.RowKit Go.Proofs.YtoihiehoolehiaaW.PrintWords Go.Proofs.YtoihiehoolehiaaW.PrintLast Go.Proofs.YtoihiehoolehiaaW.PrintMore
attribute [local go_sem] max2_int min2_int max_two min_two max_three min_three max_four min_four   
set_option linter.unusedVariables false
set_option linter.unusedSimpArgs false
attribute [local go_sem] run_field_87_0
def names_Has.f (k:Nat) (a0_0:Bool) (l0_1:List ByteArray) (a1:ByteArray):Option (Bool):=(slices_Contains_string_string.f k l0_1 a1).bind fun t393=>(some (t393 != a0_0))
theorem names_Has.mono:∀ a0 a1 a2 k,LeO (names_Has.f k a0 a1 a2) (names_Has.f (k+1) a0 a1 a2):=by
 intro a0 a1 a2 k
 unfold names_Has.f
 repeat' first
   | (with_reducible exact slices_Contains_string_string.mono _ _ _)
   | (with_reducible exact LeO.refl _)
   | (with_reducible exact LeO.none _)
   | (with_reducible refine LeO.ite ?_ ?_)
   | (with_reducible refine LeO.bind ?_ (fun _=>?_))
   | exact slices_Contains_string_string.mono _ _ _
   | exact LeO.none _
   | refine LeO.ite ?_ ?_
   | refine LeO.bind ?_ (fun _=>?_)
set_option maxHeartbeats 8000000 in
set_option maxRecDepth 100000 in
theorem names_Has.calls (k:Nat) (a0_0:Bool) (A0_1:Option Addr) (c0_1:Nat) (l0_1:List ByteArray) (a1:ByteArray) (r:Bool) (w:World) (hr0_1:Kd.C Kd.string w A0_1 l0_1.length l0_1) (hc0_1:l0_1.length≤c0_1) (h:names_Has.f k a0_0 l0_1 a1=some r) :
  Calls Try.prog 41 #[.agg #[.bool a0_0,.slice A0_1 l0_1.length c0_1],.string a1] w fun e w'=>e=.returned (.bool r)∧Below w.heap.size w w':=by
 have hu38:=Try.underlying38
 have HR0_1:=Az.mk hr0_1
 have HC0_1:=Az.mk hc0_1
 clear hr0_1 hc0_1
 have HB:=Az.mk (Below.refl w.heap.size w)
 have H:((slices_Contains_string_string.f k l0_1 a1).bind fun t393=>(some (t393 != a0_0)))=some r:=h
 clear h
 replace H:=Option.bind_eq_some_iff.mp H
 obtain ⟨t393,A30,H⟩:=H
 replace H:(some (t393 != a0_0))=some r:=H
 have A3:=Az.mk A30
 clear A30
 obtain rfl:=Option.some.inj H
 go_enter Try.func41,Try.ntmps41
 go_wp2_with (first|((with_reducible refine gate_dst (N:=2) rfl ?_);refine box_event ?hg (N:=2) ?hd (cs:=#[.bool a0_0,.slice A0_1 l0_1.length c0_1]) (t:=38) ?hr ?_;(case hd=>rfl);(case hg=>rfl);(case hr=>first|(go_simp;done)|(go_simp;rfl));intro gb392 hg w4 hbox hb;have n0_:=Az.mk (below_step (by repeat (first|(with_reducible first|exact HB.out|apply bA_|apply bN_|apply bD_)|exact HB.out)) hb);have n1_:=Az.mk (hbox);have n2_:=Az.mk ((by rw [hg];exact (be_ (by repeat (first|(with_reducible first|exact HB.out|apply bA_|apply bN_|apply bD_)|exact HB.out))):w.heap.size≤gb392));have n3_:=Az.mk ((by rw [hg];exact (be_ (by repeat (first|(with_reducible first|exact HB.out|apply bA_|apply bN_|apply bD_)|exact HB.out))):w.heap.size≤gb392));clear HB;have HB:=n0_;have BK392:=n1_;have GW392:=n2_;have GE392:=n3_;clear n0_ n1_ n2_ n3_;clear hb hbox hg;have hcz5_0:w4.cell? ⟨gb392,0,none⟩=some (.bool a0_0):=(bc_ BK392.out 0).trans rfl;have hcz5_1:w4.cell? ⟨gb392,1,none⟩=some (.slice A0_1 l0_1.length c0_1):=(bc_ BK392.out 1).trans rfl;have hfz5_0:=bf_ BK392.out 0;have hfz5_1:=bf_ BK392.out 1)|(go_at_call 59;(with_reducible refine (slices_Contains_string_string.calls k _ _ l0_1 a1 t393 _ ?side1 ?side2 A3.out).mono ?_);(case side1=>repeat (first|exact (Kd.C_below HR0_1.out HB.out)|(with_reducible refine cA_ ?_ _)|(with_reducible refine cN_ ?_ _)|(with_reducible refine cD_ ?_)));(case side2=>exact HC0_1.out);rintro e w' ⟨rfl,⟨nd,rfl⟩⟩;(try first|exact ⟨rfl,_,World.drewN_drewN _ _ _⟩|exact ⟨rfl,_,Eq.trans (World.drewN_drewN _ _ _) (congrArg (World.drewN _) (Nat.add_assoc _ _ _))⟩)))
 repeat (go_quiet (first|((with_reducible refine gate_dst (N:=2) rfl ?_);refine box_event ?hg (N:=2) ?hd (cs:=#[.bool a0_0,.slice A0_1 l0_1.length c0_1]) (t:=38) ?hr ?_;(case hd=>rfl);(case hg=>rfl);(case hr=>first|(go_simp;done)|(go_simp;rfl));intro gb392 hg w4 hbox hb;have n0_:=Az.mk (below_step (by repeat (first|(with_reducible first|exact HB.out|apply bA_|apply bN_|apply bD_)|exact HB.out)) hb);have n1_:=Az.mk (hbox);have n2_:=Az.mk ((by rw [hg];exact (be_ (by repeat (first|(with_reducible first|exact HB.out|apply bA_|apply bN_|apply bD_)|exact HB.out))):w.heap.size≤gb392));have n3_:=Az.mk ((by rw [hg];exact (be_ (by repeat (first|(with_reducible first|exact HB.out|apply bA_|apply bN_|apply bD_)|exact HB.out))):w.heap.size≤gb392));clear HB;have HB:=n0_;have BK392:=n1_;have GW392:=n2_;have GE392:=n3_;clear n0_ n1_ n2_ n3_;clear hb hbox hg;have hcz5_0:w4.cell? ⟨gb392,0,none⟩=some (.bool a0_0):=(bc_ BK392.out 0).trans rfl;have hcz5_1:w4.cell? ⟨gb392,1,none⟩=some (.slice A0_1 l0_1.length c0_1):=(bc_ BK392.out 1).trans rfl;have hfz5_0:=bf_ BK392.out 0;have hfz5_1:=bf_ BK392.out 1)|(go_at_call 59;(with_reducible refine (slices_Contains_string_string.calls k _ _ l0_1 a1 t393 _ ?side1 ?side2 A3.out).mono ?_);(case side1=>repeat (first|exact (Kd.C_below HR0_1.out HB.out)|(with_reducible refine cA_ ?_ _)|(with_reducible refine cN_ ?_ _)|(with_reducible refine cD_ ?_)));(case side2=>exact HC0_1.out);rintro e w' ⟨rfl,⟨nd,rfl⟩⟩;(try first|exact ⟨rfl,_,World.drewN_drewN _ _ _⟩|exact ⟨rfl,_,Eq.trans (World.drewN_drewN _ _ _) (congrArg (World.drewN _) (Nat.add_assoc _ _ _))⟩)));try go_wp2_with (first|((with_reducible refine gate_dst (N:=2) rfl ?_);refine box_event ?hg (N:=2) ?hd (cs:=#[.bool a0_0,.slice A0_1 l0_1.length c0_1]) (t:=38) ?hr ?_;(case hd=>rfl);(case hg=>rfl);(case hr=>first|(go_simp;done)|(go_simp;rfl));intro gb392 hg w4 hbox hb;have n0_:=Az.mk (below_step (by repeat (first|(with_reducible first|exact HB.out|apply bA_|apply bN_|apply bD_)|exact HB.out)) hb);have n1_:=Az.mk (hbox);have n2_:=Az.mk ((by rw [hg];exact (be_ (by repeat (first|(with_reducible first|exact HB.out|apply bA_|apply bN_|apply bD_)|exact HB.out))):w.heap.size≤gb392));have n3_:=Az.mk ((by rw [hg];exact (be_ (by repeat (first|(with_reducible first|exact HB.out|apply bA_|apply bN_|apply bD_)|exact HB.out))):w.heap.size≤gb392));clear HB;have HB:=n0_;have BK392:=n1_;have GW392:=n2_;have GE392:=n3_;clear n0_ n1_ n2_ n3_;clear hb hbox hg;have hcz5_0:w4.cell? ⟨gb392,0,none⟩=some (.bool a0_0):=(bc_ BK392.out 0).trans rfl;have hcz5_1:w4.cell? ⟨gb392,1,none⟩=some (.slice A0_1 l0_1.length c0_1):=(bc_ BK392.out 1).trans rfl;have hfz5_0:=bf_ BK392.out 0;have hfz5_1:=bf_ BK392.out 1)|(go_at_call 59;(with_reducible refine (slices_Contains_string_string.calls k _ _ l0_1 a1 t393 _ ?side1 ?side2 A3.out).mono ?_);(case side1=>repeat (first|exact (Kd.C_below HR0_1.out HB.out)|(with_reducible refine cA_ ?_ _)|(with_reducible refine cN_ ?_ _)|(with_reducible refine cD_ ?_)));(case side2=>exact HC0_1.out);rintro e w' ⟨rfl,⟨nd,rfl⟩⟩;(try first|exact ⟨rfl,_,World.drewN_drewN _ _ _⟩|exact ⟨rfl,_,Eq.trans (World.drewN_drewN _ _ _) (congrArg (World.drewN _) (Nat.add_assoc _ _ _))⟩))))
 go_ret
 exact ⟨by first|rfl|(simp [errW_none,errW_some] <;> rfl)|(simp [*,errW_none,errW_some] <;> rfl),by repeat (first|(with_reducible first|exact HB.out|apply bA_|apply bN_|apply bD_|refine bs_ ?_ GE392.out)|exact HB.out)⟩
end Go.Proofs.Ytoihiehoolehiaa.PX
set_option linter.unusedVariables false
set_option linter.unusedSimpArgs false
namespace Go.Proofs.Ytoihiehoolehiaa.PX
open Go.RowKit Go.Proofs.YtoihiehoolehiaaW.PrintWords Go.Proofs.YtoihiehoolehiaaW.PrintLast Go.Proofs.YtoihiehoolehiaaW.PrintMore Go.Proofs.Ytoihiehoolehiaa
def hasL (l:List ByteArray) (a:ByteArray):Bool:=l.any fun y=>decide (y=a)
theorem hasL_iff (l:List ByteArray) (a:ByteArray):hasL l a=true ↔ a ∈ l:=by
 simp [hasL]
theorem index_ev (l:List ByteArray) (a:ByteArray) (hl:l.length≤1000000000000):∀ d i:Nat,l.length - i≤d→i≤l.length→∃ r:Int,Ev (fun k=>slices_Index_string_string.l0 k l a (l.length:Int) (i:Int)) r∧decide (r ≥ 0)=hasL (l.drop i) a
 | d,i,hd,hi=>by
  by_cases h:i < l.length
  ·have e:∀ k,slices_Index_string_string.l0 (k+1) l a (l.length:Int) (i:Int)=if l[i]=a then some (i:Int) else slices_Index_string_string.l0 k l a (l.length:Int) ((i+1:Nat):Int):=by
    intro k
    simp only [slices_Index_string_string.l0]
    rw [if_pos (by omega),if_pos (by omega),if_pos (by omega),rdOf_nat h,wrap_succ (by omega)]
    by_cases ha:l[i]=a
    ·rw [if_pos (by rw [ha]),if_pos ha]
    ·rw [if_neg (fun x=>ha (tl_inj (by rw [toList_tl,toList_tl] at x;exact x.symm))),if_neg ha]
   have hdrop:l.drop i=l[i] :: l.drop (i+1):=List.drop_eq_getElem_cons h
   by_cases ha:l[i]=a
   ·refine ⟨(i:Int),Ev.step (fun k=>(e k).trans (if_pos ha)) (Ev.now _),?_⟩
    rw [hdrop]
    simp [hasL,ha]
   ·cases d with
    | zero=>omega
    | succ d =>
     obtain ⟨r,h1,h2⟩:=index_ev l a hl d (i+1) (by omega) (by omega)
     refine ⟨r,Ev.step (fun k=>(e k).trans (if_neg ha)) h1,?_⟩
     rw [h2,hdrop,hasL,hasL,List.any_cons,decide_eq_false ha,Bool.false_or]
  ·refine ⟨-1,Ev.step (f:=fun _=>some (-1)) (fun k=>?_) (Ev.now _),?_⟩
   ·simp only [slices_Index_string_string.l0]
    rw [if_neg (by omega)]
   ·rw [List.drop_of_length_le (by omega)]
    rfl
theorem has_ev (b:Bool) (l:List ByteArray) (a:ByteArray) (hl:l.length≤1000000000000):Ev (fun k=>names_Has.f k b l a) (hasL l a != b):=by
 obtain ⟨r,h1,h2⟩:=index_ev l a hl _ 0 (Nat.le_refl _) (Nat.zero_le _)
 obtain ⟨K,h1⟩:=h1
 refine ⟨K,fun k hk=>?_⟩
 have h1:slices_Index_string_string.l0 k l a (l.length:Int) 0=some r:=h1 k hk
 simp only [names_Has.f,slices_Contains_string_string.f,slices_Index_string_string.f]
 rw [h1]
 simp only [Option.bind_some]
 rw [h2]
 rfl
end Go.Proofs.Ytoihiehoolehiaa.PX
set_option linter.unusedVariables false
set_option linter.unusedSimpArgs false
namespace Go.Proofs.Ytoihiehoolehiaa.PX
open Go.RowKit Go.Proofs.YtoihiehoolehiaaW.PrintWords Go.Proofs.YtoihiehoolehiaaW.PrintLast Go.Proofs.YtoihiehoolehiaaW.PrintMore Go.Proofs.Ytoihiehoolehiaa Go.Shelf
def idxN (p:Nat→Bool) (n:Nat):Int:=((List.range n).find? p).elim (-1) fun i=>(i:Int)
theorem idxN_hit {p:Nat→Bool} {n i:Nat} (h:i < n) (hp:p i=true) (hl:∀ j,j < i→p j=false):idxN p n=(i:Int):=by
 unfold idxN
 rw [List.find?_range_eq_some.2 ⟨hp,List.mem_range.2 h,fun j hj=>by rw [hl j hj];rfl⟩]
 rfl
theorem idxN_miss {p:Nat→Bool} {n:Nat} (hl:∀ j,j < n→p j=false):idxN p n = -1:=by
 unfold idxN
 rw [List.find?_range_eq_none.2 (fun j hj=>by rw [hl j hj];rfl)]
 rfl
theorem idxN_cases (p:Nat→Bool) (n:Nat):(∃ i,i < n∧p i=true∧(∀ j,j < i→p j=false)∧idxN p n=(i:Int))∨((∀ j,j < n→p j=false)∧idxN p n = -1):=by
 cases e:(List.range n).find? p with
 | none =>
  have h:=List.find?_range_eq_none.1 e
  have h':∀ j,j < n→p j=false:=fun j hj=>by simpa using h j hj
  exact .inr ⟨h',idxN_miss h'⟩
 | some i =>
  obtain ⟨h1,h2,h3⟩:=List.find?_range_eq_some.1 e
  have h':∀ j,j < i→p j=false:=fun j hj=>by simpa using h3 j hj
  exact .inl ⟨i,List.mem_range.1 h2,h1,h',idxN_hit (List.mem_range.1 h2) h1 h'⟩
def anyN (p:Nat→Bool) (n:Nat):Bool:=decide (0≤idxN p n)
theorem anyN_eq (p:Nat→Bool) (n:Nat):anyN p n=(List.range n).any p:=by
 unfold anyN
 rcases idxN_cases p n with ⟨i,h1,h2,h3,h4⟩|⟨h1,h2⟩
 ·rw [h4,decide_eq_true (by omega),(List.any_eq_true.2 ⟨i,List.mem_range.2 h1,h2⟩:(List.range n).any p=true)]
 ·rw [h2,decide_eq_false (by omega),(List.any_eq_false.2 fun j hj=>by rw [h1 j (List.mem_range.1 hj)];simp:(List.range n).any p=false)]
set_option maxHeartbeats 4000000 in
set_option maxRecDepth 100000 in
theorem idxF (g:Nat) (lb:Array Value) (eg:∀ args w,(callFunc g args).run Try.prog w=.ok (.enter g args) w) (A:Option Addr) (c:Nat) (l:List S40) (p:Nat→Bool) (w:World) (hC:Kd.C k40 w A l.length l) (hl:l.length≤1000000000000)
  (hp:∀ i (h:i < l.length) (W:World) (A1:Option Addr) (c1:Nat),Below w.heap.size w W→Kd.C Kd.string w A1 l[i].f0.f1.length l[i].f0.f1→l[i].f0.f1.length≤c1→Calls Try.prog g (#[.agg #[.bool l[i].f0.f0,.slice A1 l[i].f0.f1.length c1,.int .i64 l[i].f1,.bool l[i].f2]] ++ lb) W fun e w'=>e=.returned (.bool (p i))∧Below W.heap.size W w') :
  Calls Try.prog 57 #[.slice A l.length c,.func (.func g) #[] lb] w fun e w'=>e=.returned (.int .i64 (idxN p l.length))∧Below w.heap.size w w':=by
 have hu:=Try.underlying40
 have HC:=Az.mk hC
 have HP:=Az.mk hp
 clear hC hp
 generalize hn:l.length=n at hl ⊢
 have HN:=Az.mk hn
 clear hn
 generalize hr:idxN p n=r
 have HR:=Az.mk hr
 clear hr
 go_enter Try.func57,Try.ntmps57
 go_wp2
 go_loopg [5,8] n (fun gg _ s8 wr=>∃ kk:Nat,kk≤n∧n - kk≤gg∧s8=.int .i64 kk∧Az (Below w.heap.size w wr)∧Az (∀ j,j < kk→p j=false))
 case atStart=>exact ⟨0,Nat.zero_le _,by omega,rfl,⟨Below.refl _ w⟩,⟨fun j hj=>absurd hj (Nat.not_lt_zero _)⟩⟩
 case round =>
  obtain ⟨kk,hkk,hg,rfl,HB,PF⟩:=hrel
  by_cases hlt:kk < n
  ·have hm:kk < l.length:=by rw [HN.out];exact hlt
   obtain ⟨ad,A1,c1,rfl,hx0,hx1,hx2,hx3,hx4,hx5⟩:=at_T40 HC.out (kk:Int) (by omega) (by exact_mod_cast hm)
   rw [show rd_T40 l (kk:Int)=l[kk] by simp [rd_T40,List.getD_eq_getElem?_getD,hm]] at hx0 hx1 hx2 hx3 hx4 hx5
   replace hx0:=(HB.out.cell (World.block_lt_of_cell? w _ hx0)).trans hx0
   replace hx1:=(HB.out.cell (World.block_lt_of_cell? w _ hx1)).trans hx1
   replace hx2:=(HB.out.cell (World.block_lt_of_cell? w _ hx2)).trans hx2
   replace hx3:=(HB.out.cell (World.block_lt_of_cell? w _ hx3)).trans hx3
   have hcall:=HP.out kk hm wr A1 c1 HB.out hx5 hx4
   clear hx4 hx5
   simp only [Int.toNat_natCast] at hx0 hx1 hx2 hx3
   generalize (l[kk]).f0.f1.length=m1 at hx1 hcall
   generalize (l[kk]).f0.f0=y0 at hx0 hcall
   generalize (l[kk]).f1=y2 at hx2 hcall
   generalize (l[kk]).f2=y3 at hx3 hcall
   clear hm
   have hltz:(kk:Int) < (n:Int):=by omega
   cases hq:p kk with
   | true =>
    rw [hq] at hcall
    have HQ:=Az.mk hq
    clear hq
    go_wp2_with (go_at_fn g;refine hcall.mono ?_;rintro e w' ⟨rfl,hb'⟩)
    go_ret
    refine ⟨?_,below_then HB.out HB.out.size hb'⟩
    rw [← HR.out,idxN_hit hlt HQ.out PF.out]
    rfl
   | false =>
    rw [hq] at hcall
    have HQ:=Az.mk hq
    clear hq
    go_wp2_with (go_at_fn g;refine hcall.mono ?_;rintro e w' ⟨rfl,hb'⟩)
    go_roundg (n - (kk+1))
    case measure=>omega
    case rel =>
     refine ⟨kk+1,by omega,by omega,by go_num,⟨below_then HB.out HB.out.size hb'⟩,⟨fun j hj=>?_⟩⟩
     by_cases e:j=kk
     ·subst e
      exact HQ.out
     ·exact PF.out j (by omega)
  ·have hltz:¬ (kk:Int) < (n:Int):=by omega
   have:kk=n:=by omega
   subst this
   go_wp2
   go_ret
   refine ⟨?_,HB.out⟩
   rw [← HR.out,idxN_miss PF.out]
   rfl
set_option maxHeartbeats 4000000 in
set_option maxRecDepth 100000 in
theorem idxE (g:Nat) (lb:Array Value) (eg:∀ args w,(callFunc g args).run Try.prog w=.ok (.enter g args) w) (A:Option Addr) (c:Nat) (l:List S53) (p:Nat→Bool) (w:World) (hC:Kd.C k53 w A l.length l) (hl:l.length≤1000000000000)
  (hp:∀ i (h:i < l.length) (W:World) (A1:Option Addr) (c1:Nat),Below w.heap.size w W→Kd.C k53 w A1 l[i].f1.length l[i].f1→l[i].f1.length≤c1→Calls Try.prog g (#[.agg #[.string l[i].f0,.slice A1 l[i].f1.length c1]] ++ lb) W fun e w'=>e=.returned (.bool (p i))∧Below W.heap.size W w') :
  Calls Try.prog 58 #[.slice A l.length c,.func (.func g) #[] lb] w fun e w'=>e=.returned (.int .i64 (idxN p l.length))∧Below w.heap.size w w':=by
 have hu:=Try.underlying53
 have HC:=Az.mk hC
 have HP:=Az.mk hp
 clear hC hp
 generalize hn:l.length=n at hl ⊢
 have HN:=Az.mk hn
 clear hn
 generalize hr:idxN p n=r
 have HR:=Az.mk hr
 clear hr
 go_enter Try.func58,Try.ntmps58
 go_wp2
 go_loopg [5,8] n (fun gg _ s8 wr=>∃ kk:Nat,kk≤n∧n - kk≤gg∧s8=.int .i64 kk∧Az (Below w.heap.size w wr)∧Az (∀ j,j < kk→p j=false))
 case atStart=>exact ⟨0,Nat.zero_le _,by omega,rfl,⟨Below.refl _ w⟩,⟨fun j hj=>absurd hj (Nat.not_lt_zero _)⟩⟩
 case round =>
  obtain ⟨kk,hkk,hg,rfl,HB,PF⟩:=hrel
  by_cases hlt:kk < n
  ·have hm:kk < l.length:=by rw [HN.out];exact hlt
   obtain ⟨ad,A1,c1,rfl,hx0,hx1,hx4,hx5⟩:=at_T53 HC.out (kk:Int) (by omega) (by exact_mod_cast hm)
   rw [show rd_T53 l (kk:Int)=l[kk] by simp [rd_T53,List.getD_eq_getElem?_getD,hm]] at hx0 hx1 hx4 hx5
   replace hx0:=(HB.out.cell (World.block_lt_of_cell? w _ hx0)).trans hx0
   replace hx1:=(HB.out.cell (World.block_lt_of_cell? w _ hx1)).trans hx1
   have hcall:=HP.out kk hm wr A1 c1 HB.out hx5 hx4
   clear hx4 hx5
   simp only [Int.toNat_natCast] at hx0 hx1
   generalize (l[kk]).f1.length=m1 at hx1 hcall
   generalize (l[kk]).f0=y0 at hx0 hcall
   clear hm
   have hltz:(kk:Int) < (n:Int):=by omega
   cases hq:p kk with
   | true =>
    rw [hq] at hcall
    have HQ:=Az.mk hq
    clear hq
    go_wp2_with (go_at_fn g;refine hcall.mono ?_;rintro e w' ⟨rfl,hb'⟩)
    go_ret
    refine ⟨?_,below_then HB.out HB.out.size hb'⟩
    rw [← HR.out,idxN_hit hlt HQ.out PF.out]
    rfl
   | false =>
    rw [hq] at hcall
    have HQ:=Az.mk hq
    clear hq
    go_wp2_with (go_at_fn g;refine hcall.mono ?_;rintro e w' ⟨rfl,hb'⟩)
    go_roundg (n - (kk+1))
    case measure=>omega
    case rel =>
     refine ⟨kk+1,by omega,by omega,by go_num,⟨below_then HB.out HB.out.size hb'⟩,⟨fun j hj=>?_⟩⟩
     by_cases e:j=kk
     ·subst e
      exact HQ.out
     ·exact PF.out j (by omega)
  ·have hltz:¬ (kk:Int) < (n:Int):=by omega
   have:kk=n:=by omega
   subst this
   go_wp2
   go_ret
   refine ⟨?_,HB.out⟩
   rw [← HR.out,idxN_miss PF.out]
   rfl
set_option maxHeartbeats 4000000 in
set_option maxRecDepth 100000 in
theorem idxS (g:Nat) (lb:Array Value) (eg:∀ args w,(callFunc g args).run Try.prog w=.ok (.enter g args) w) (A:Option Addr) (c:Nat) (l:List ByteArray) (p:Nat→Bool) (w:World) (hC:Kd.C Kd.string w A l.length l) (hl:l.length≤1000000000000)
  (hp:∀ i (h:i < l.length) (W:World),Below w.heap.size w W→Calls Try.prog g (#[.string l[i]] ++ lb) W fun e w'=>e=.returned (.bool (p i))∧Below W.heap.size W w') :
  Calls Try.prog 64 #[.slice A l.length c,.func (.func g) #[] lb] w fun e w'=>e=.returned (.int .i64 (idxN p l.length))∧Below w.heap.size w w':=by
 have HC:=Az.mk hC
 have HP:=Az.mk hp
 clear hC hp
 generalize hn:l.length=n at hl ⊢
 have HN:=Az.mk hn
 clear hn
 generalize hr:idxN p n=r
 have HR:=Az.mk hr
 clear hr
 go_enter Try.func64,Try.ntmps64
 go_wp2
 go_loopg [5,8] n (fun gg _ s8 wr=>∃ kk:Nat,kk≤n∧n - kk≤gg∧s8=.int .i64 kk∧Az (Below w.heap.size w wr)∧Az (∀ j,j < kk→p j=false))
 case atStart=>exact ⟨0,Nat.zero_le _,by omega,rfl,⟨Below.refl _ w⟩,⟨fun j hj=>absurd hj (Nat.not_lt_zero _)⟩⟩
 case round =>
  obtain ⟨kk,hkk,hg,rfl,HB,PF⟩:=hrel
  by_cases hlt:kk < n
  ·have hm:kk < l.length:=by rw [HN.out];exact hlt
   obtain ⟨ad,rfl,hx0⟩:=Kd.at_string HC.out (kk:Int) (by omega) (by exact_mod_cast hm)
   rw [rdOf_nat hm] at hx0
   replace hx0:=(HB.out.cell (World.block_lt_of_cell? w _ hx0)).trans hx0
   have hcall:=HP.out kk hm wr HB.out
   simp only [Int.toNat_natCast] at hx0
   generalize l[kk]=y0 at hx0 hcall
   clear hm
   have hltz:(kk:Int) < (n:Int):=by omega
   cases hq:p kk with
   | true =>
    rw [hq] at hcall
    have HQ:=Az.mk hq
    clear hq
    go_wp2_with (go_at_fn g;refine hcall.mono ?_;rintro e w' ⟨rfl,hb'⟩)
    go_ret
    refine ⟨?_,below_then HB.out HB.out.size hb'⟩
    rw [← HR.out,idxN_hit hlt HQ.out PF.out]
    rfl
   | false =>
    rw [hq] at hcall
    have HQ:=Az.mk hq
    clear hq
    go_wp2_with (go_at_fn g;refine hcall.mono ?_;rintro e w' ⟨rfl,hb'⟩)
    go_roundg (n - (kk+1))
    case measure=>omega
    case rel =>
     refine ⟨kk+1,by omega,by omega,by go_num,⟨below_then HB.out HB.out.size hb'⟩,⟨fun j hj=>?_⟩⟩
     by_cases e:j=kk
     ·subst e
      exact HQ.out
     ·exact PF.out j (by omega)
  ·have hltz:¬ (kk:Int) < (n:Int):=by omega
   have:kk=n:=by omega
   subst this
   go_wp2
   go_ret
   refine ⟨?_,HB.out⟩
   rw [← HR.out,idxN_miss PF.out]
   rfl
theorem anyF (g:Nat) (lb:Array Value) (eg:∀ args w,(callFunc g args).run Try.prog w=.ok (.enter g args) w) (A:Option Addr) (c:Nat) (l:List S40) (p:Nat→Bool) (w:World) (hC:Kd.C k40 w A l.length l) (hl:l.length≤1000000000000)
  (hp:∀ i (h:i < l.length) (W:World) (A1:Option Addr) (c1:Nat),Below w.heap.size w W→Kd.C Kd.string w A1 l[i].f0.f1.length l[i].f0.f1→l[i].f0.f1.length≤c1→Calls Try.prog g (#[.agg #[.bool l[i].f0.f0,.slice A1 l[i].f0.f1.length c1,.int .i64 l[i].f1,.bool l[i].f2]] ++ lb) W fun e w'=>e=.returned (.bool (p i))∧Below W.heap.size W w') :
  Calls Try.prog 35 #[.slice A l.length c,.func (.func g) #[] lb] w fun e w'=>e=.returned (.bool (anyN p l.length))∧Below w.heap.size w w':=by
 have hc:=idxF g lb eg A c l p w hC hl hp
 clear hC hp
 unfold anyN
 generalize l.length=n at hc hl ⊢
 generalize idxN p n=r at hc ⊢
 go_enter Try.func35,Try.ntmps35
 go_wp2_with (go_at_call 57;refine hc.mono ?_;rintro e w' ⟨rfl,hb'⟩)
 go_ret
 exact ⟨rfl,hb'⟩
theorem anyE (g:Nat) (lb:Array Value) (eg:∀ args w,(callFunc g args).run Try.prog w=.ok (.enter g args) w) (A:Option Addr) (c:Nat) (l:List S53) (p:Nat→Bool) (w:World) (hC:Kd.C k53 w A l.length l) (hl:l.length≤1000000000000)
  (hp:∀ i (h:i < l.length) (W:World) (A1:Option Addr) (c1:Nat),Below w.heap.size w W→Kd.C k53 w A1 l[i].f1.length l[i].f1→l[i].f1.length≤c1→Calls Try.prog g (#[.agg #[.string l[i].f0,.slice A1 l[i].f1.length c1]] ++ lb) W fun e w'=>e=.returned (.bool (p i))∧Below W.heap.size W w') :
  Calls Try.prog 36 #[.slice A l.length c,.func (.func g) #[] lb] w fun e w'=>e=.returned (.bool (anyN p l.length))∧Below w.heap.size w w':=by
 have hc:=idxE g lb eg A c l p w hC hl hp
 clear hC hp
 unfold anyN
 generalize l.length=n at hc hl ⊢
 generalize idxN p n=r at hc ⊢
 go_enter Try.func36,Try.ntmps36
 go_wp2_with (go_at_call 58;refine hc.mono ?_;rintro e w' ⟨rfl,hb'⟩)
 go_ret
 exact ⟨rfl,hb'⟩
theorem anyS (g:Nat) (lb:Array Value) (eg:∀ args w,(callFunc g args).run Try.prog w=.ok (.enter g args) w) (A:Option Addr) (c:Nat) (l:List ByteArray) (p:Nat→Bool) (w:World) (hC:Kd.C Kd.string w A l.length l) (hl:l.length≤1000000000000)
  (hp:∀ i (h:i < l.length) (W:World),Below w.heap.size w W→Calls Try.prog g (#[.string l[i]] ++ lb) W fun e w'=>e=.returned (.bool (p i))∧Below W.heap.size W w') :
  Calls Try.prog 55 #[.slice A l.length c,.func (.func g) #[] lb] w fun e w'=>e=.returned (.bool (anyN p l.length))∧Below w.heap.size w w':=by
 have hc:=idxS g lb eg A c l p w hC hl hp
 clear hC hp
 unfold anyN
 generalize l.length=n at hc hl ⊢
 generalize idxN p n=r at hc ⊢
 go_enter Try.func55,Try.ntmps55
 go_wp2_with (go_at_call 64;refine hc.mono ?_;rintro e w' ⟨rfl,hb'⟩)
 go_ret
 exact ⟨rfl,hb'⟩
theorem firstF (g:Nat) (lb:Array Value) (eg:∀ args w,(callFunc g args).run Try.prog w=.ok (.enter g args) w) (A:Option Addr) (c:Nat) (l:List S40) (p:Nat→Bool) (w:World) (hC:Kd.C k40 w A l.length l) (hl:l.length≤1000000000000)
  (hp:∀ i (h:i < l.length) (W:World) (A1:Option Addr) (c1:Nat),Below w.heap.size w W→Kd.C Kd.string w A1 l[i].f0.f1.length l[i].f0.f1→l[i].f0.f1.length≤c1→Calls Try.prog g (#[.agg #[.bool l[i].f0.f0,.slice A1 l[i].f0.f1.length c1,.int .i64 l[i].f1,.bool l[i].f2]] ++ lb) W fun e w'=>e=.returned (.bool (p i))∧Below W.heap.size W w') :
  Calls Try.prog 39 #[.slice A l.length c,.func (.func g) #[] lb] w fun e w'=>e=.returned (.int .i64 (idxN p l.length))∧Below w.heap.size w w':=by
 have hc:=idxF g lb eg A c l p w hC hl hp
 clear hC hp
 generalize l.length=n at hc hl ⊢
 generalize idxN p n=r at hc ⊢
 go_enter Try.func39,Try.ntmps39
 go_wp2_with (go_at_call 57;refine hc.mono ?_;rintro e w' ⟨rfl,hb'⟩)
 go_ret
 exact ⟨rfl,hb'⟩
end Go.Proofs.Ytoihiehoolehiaa.PX
set_option linter.unusedVariables false
set_option linter.unusedSimpArgs false
namespace Go.Proofs.Ytoihiehoolehiaa.PX
open Go.RowKit Go.Proofs.YtoihiehoolehiaaW.PrintWords Go.Proofs.YtoihiehoolehiaaW.PrintLast Go.Proofs.YtoihiehoolehiaaW.PrintMore Go.Proofs.Ytoihiehoolehiaa Go.Shelf
abbrev Sc:=List S33
def hasS (x:S38) (a:ByteArray):Bool:=hasL x.f1 a != x.f0
def ScOk (s:Sc):Prop:=s.length≤1000000000000∧∀ d ∈ s,d.f0.length≤1000000000000∧∀ f ∈ d.f0,f.f0.f1.length≤1000000000000
instance (s:Sc):Decidable (ScOk s):=by unfold ScOk;exact inferInstance
def toN (l:List S40) (a:ByteArray):Int:=(l.find? fun f=>hasS f.f0 a).elim (-1) (·.f1)
def toM (s:Sc) (d:Int) (a:ByteArray):Int:=if d < 0∨(s.length:Int)≤d then -1 else toN (rd_T33 s d).f0 a
theorem toN_idx (l:List S40) (a:ByteArray):(∃ (i:Nat) (h:i < l.length),idxN (fun i=>(l[i]?).elim false fun f=>hasS f.f0 a) l.length=(i:Int)∧toN l a=(l[i]).f1)∨(idxN (fun i=>(l[i]?).elim false fun f=>hasS f.f0 a) l.length = -1∧toN l a = -1):=by
 rcases idxN_cases (fun i=>(l[i]?).elim false fun f=>hasS f.f0 a) l.length with ⟨i,h1,h2,h3,h4⟩|⟨h1,h2⟩
 ·refine .inl ⟨i,h1,h4,?_⟩
  have e:l.find? (fun f=>hasS f.f0 a)=some l[i]:=by
   rw [List.find?_eq_some_iff_getElem]
   refine ⟨by simpa [h1] using h2,i,h1,rfl,fun j hj=>?_⟩
   have:=h3 j hj
   rw [List.getElem?_eq_getElem (by omega)] at this
   simpa using this
  rw [toN,e]
  rfl
 ·refine .inr ⟨h2,?_⟩
  have e:l.find? (fun f=>hasS f.f0 a)=none:=by
   rw [List.find?_eq_none]
   intro x hx
   obtain ⟨j,hj,rfl⟩:=List.mem_iff_getElem.1 hx
   have:=h1 j hj
   rw [List.getElem?_eq_getElem hj] at this
   simpa using this
  rw [toN,e]
  rfl
set_option maxHeartbeats 4000000 in
set_option maxRecDepth 100000 in
theorem to_pred (a:ByteArray) (B:Nat) (f:S40) (W:World) (A1:Option Addr) (c1:Nat) (hB:W.cell? ⟨B,0,none⟩=some (.string a)) (hC:Kd.C Kd.string W A1 f.f0.f1.length f.f0.f1) (hc:f.f0.f1.length≤c1) (hl:f.f0.f1.length≤1000000000000) :
  Calls Try.prog 40 #[.agg #[.bool f.f0.f0,.slice A1 f.f0.f1.length c1,.int .i64 f.f1,.bool f.f2],.pointer (some ⟨B,0,none⟩)] W fun e w'=>e=.returned (.bool (hasS f.f0 a))∧Below W.heap.size W w':=by
 obtain ⟨k,hk⟩:=Ev.both (has_ev f.f0.f0 f.f0.f1 a hl)
 change names_Has.f k f.f0.f0 f.f0.f1 a=some (hasS f.f0 a) at hk
 have hu:=Try.underlying40
 have hu2:=Try.underlying38
 have hBl:=World.block_lt_of_cell? W _ hB
 have hB1:(W.alloc (.cells #[.bool f.f0.f0,.slice A1 f.f0.f1.length c1,.int .i64 f.f1,.bool f.f2] 40)).cell? ⟨B,0,none⟩=some (.string a):=Lib.cell?_alloc_some _ hB
 have hcall:=names_Has.calls k f.f0.f0 A1 c1 f.f0.f1 a _ (W.alloc (.cells #[.bool f.f0.f0,.slice A1 f.f0.f1.length c1,.int .i64 f.f1,.bool f.f2] 40)) (Kd.C_alloc hC _) hc hk
 clear hk hC
 generalize hasS f.f0 a=r at hcall ⊢
 generalize f.f0.f0=y0 at hB1 hcall ⊢
 generalize f.f0.f1.length=m at hB1 hcall ⊢
 generalize f.f1=y1 at hB1 hcall ⊢
 generalize f.f2=y2 at hB1 hcall ⊢
 clear hc hl hB
 go_enter Try.func40,Try.ntmps40
 go_wp2_with (go_at_call 41;refine hcall.mono ?_;rintro e w' ⟨rfl,hb'⟩)
 go_ret
 exact ⟨rfl,below_then (below_alloc (Below.refl _ _) _) (by simp) hb'⟩
def schema_To.f (l0:Sc) (a1:Int) (a2:ByteArray):Option Int:=if ScOk l0 then some (toM l0 a1 a2) else none
theorem rdD_mem {s:Sc} {d:Int} (h0:0≤d) (h1:d < s.length):rd_T33 s d ∈ s:=by
 have h:d.toNat < s.length:=by omega
 rw [show rd_T33 s d=s[d.toNat] by simp [rd_T33,List.getD_eq_getElem?_getD,h]]
 exact List.getElem_mem h
theorem rdF_nat {l:List S40} {i:Nat} (h:i < l.length):rd_T40 l (i:Int)=l[i]:=by simp [rd_T40,List.getD_eq_getElem?_getD,h]
set_option maxHeartbeats 8000000 in
set_option maxRecDepth 100000 in
theorem schema_To.calls (A0:Option Addr) (c0:Nat) (l0:List S33) (a1:Int) (a2:ByteArray) (r:Int) (w:World) (hr0:Kd.C k33 w A0 l0.length l0) (hc0:l0.length≤c0) (h:schema_To.f l0 a1 a2=some r) :
  Calls Try.prog 20 #[.slice A0 l0.length c0,.int .i64 a1,.string a2] w fun e w'=>e=.returned (.int .i64 r)∧Below w.heap.size w w':=by
 unfold schema_To.f at h
 split at h
 case isFalse=>cases h
 rename_i hok
 obtain rfl:=Option.some.inj h
 clear h
 have hu:=Try.underlying33
 have hu2:=Try.underlying40
 by_cases h1:a1 < 0
 ·rw [toM,if_pos (.inl h1)]
  clear hr0 hok hc0
  generalize l0.length=n
  go_enter Try.func20,Try.ntmps20
  go_wp2
  go_ret
  exact ⟨rfl,below_alloc (Below.refl _ _) _⟩
 by_cases h2:a1 < (l0.length:Int)
 ·rw [toM,if_neg (by omega)]
  have hm:=rdD_mem (by omega) h2
  obtain ⟨hs1,hs2⟩:=hok
  obtain ⟨hf1,hf2⟩:=hs2 _ hm
  clear hs2 hm hc0
  obtain ⟨ad,A1,c1,rfl,hx0,_,_,hx3,hx4⟩:=at_T33 hr0 a1 (by omega) h2
  clear hr0
  generalize (rd_T33 l0 a1).f0=fs at hx0 hx3 hx4 hf1 hf2 ⊢
  generalize l0.length=n at h2 hs1 ⊢
  have eg:∀ args w,(callFunc 40 args).run Try.prog w=.ok (.enter 40 args) w:=enters_of Try.func40 (by kernel_rfl) rfl
  have hcon:=firstF 40 #[.pointer (some ⟨w.heap.size,0,none⟩)] eg A1 c1 fs (fun i=>(fs[i]?).elim false fun f=>hasS f.f0 a2) (w.alloc (.cells #[.string a2] 9)) (Kd.C_alloc hx4 _) hf1
   (fun i hi W B1 c2 hW hC hc=>by
    have hb0:(w.alloc (.cells #[.string a2] 9)).cell? ⟨w.heap.size,0,none⟩=some (.string a2):=by simp
    have hb:W.cell? ⟨w.heap.size,0,none⟩=some (.string a2):=(hW.cell (World.block_lt_of_cell? _ _ hb0)).trans hb0
    have:=to_pred a2 w.heap.size (fs[i]) W B1 c2 hb (Kd.C_below hC hW) hc (hf2 _ (List.getElem_mem hi))
    rw [List.getElem?_eq_getElem hi]
    exact this)
  have hx0':(w.alloc (.cells #[.string a2] 9)).cell? (ad.add (a1.toNat * 3))=_:=Lib.cell?_alloc_some _ hx0
  rcases toN_idx fs a2 with ⟨i,hi,e1,e2⟩|⟨e1,e2⟩
  ·rw [e1] at hcon
   rw [e2]
   obtain ⟨ad2,A3,c3,rfl,_,_,hy2,_,_,_⟩:=at_T40 hx4 (i:Int) (by omega) (by exact_mod_cast hi)
   rw [rdF_nat hi,Int.toNat_natCast] at hy2
   clear hx4 hx3 hf2 hx0 e1 e2
   generalize (fs[i]).f1=y at hy2 ⊢
   have hi':(i:Int) < (fs.length:Int):=by exact_mod_cast hi
   clear hi
   generalize fs.length=m at hx0' hcon hf1 hi'
   have HB:∀ w',Below (w.alloc (.cells #[.string a2] 9)).heap.size (w.alloc (.cells #[.string a2] 9)) w'→w'.cell? ⟨(ad2.add (i * 4)).block,(ad2.add (i * 4)).off+2,none⟩=some (.int .i64 y):=fun w' hb=>by
    have:=Lib.cell?_alloc_some (.cells #[.string a2] 9) hy2
    exact (hb.cell (World.block_lt_of_cell? _ _ this)).trans this
   have HB':=Az.mk HB
   clear HB hy2
   go_enter Try.func20,Try.ntmps20
   go_wp2_with (go_at_call 39;refine hcon.mono ?_;rintro e w' ⟨rfl,hb'⟩;have hy:=HB'.out w' hb')
   go_ret
   exact ⟨rfl,below_then (below_alloc (Below.refl _ _) _) (by simp) hb'⟩
  ·rw [e1] at hcon
   rw [e2]
   clear hx4 hx3 hf2 hx0 e1 e2
   generalize fs.length=m at hx0' hcon hf1
   go_enter Try.func20,Try.ntmps20
   go_wp2_with (go_at_call 39;refine hcon.mono ?_;rintro e w' ⟨rfl,hb'⟩)
   go_ret
   exact ⟨rfl,below_then (below_alloc (Below.refl _ _) _) (by simp) hb'⟩
 ·rw [toM,if_pos (.inr (by omega))]
  clear hr0 hok hc0
  generalize l0.length=n at h2 ⊢
  go_enter Try.func20,Try.ntmps20
  go_wp2
  go_ret
  exact ⟨rfl,below_alloc (Below.refl _ _) _⟩
end Go.Proofs.Ytoihiehoolehiaa.PX
set_option linter.unusedVariables false
set_option linter.unusedSimpArgs false
namespace Go.Proofs.Ytoihiehoolehiaa.PX
open Go.RowKit Go.Proofs.YtoihiehoolehiaaW.PrintWords Go.Proofs.YtoihiehoolehiaaW.PrintLast Go.Proofs.YtoihiehoolehiaaW.PrintMore Go.Proofs.Ytoihiehoolehiaa Go.Shelf
theorem anyN_list {α:Type} (l:List α) (q:α→Bool):anyN (fun i=>(l[i]?).elim false q) l.length=l.any q:=by
 rw [anyN_eq,Bool.eq_iff_iff,List.any_eq_true,List.any_eq_true]
 constructor
 ·rintro ⟨i,hi,h⟩
  have hi:=List.mem_range.1 hi
  rw [List.getElem?_eq_getElem hi] at h
  exact ⟨l[i],List.getElem_mem hi,h⟩
 ·rintro ⟨x,hx,h⟩
  obtain ⟨i,hi,rfl⟩:=List.mem_iff_getElem.1 hx
  exact ⟨i,List.mem_range.2 hi,by rw [List.getElem?_eq_getElem hi];exact h⟩
theorem cell_new (w:World) (o:Array Value) (t:TypeId) (B i:Nat) {v:Value} (hB:B=w.heap.size) (hv:o[i]? = some v):(w.alloc (.cells o t)).cell? ⟨B,i,none⟩=some v:=by
 subst hB
 rw [← hv]
 simp
def hasT (t:Tr) (n:ByteArray):Bool:=t.any fun x=>decide (x.f0=n)
def lacksM (t:Tr) (f:S40):Bool:=f.f2 && f.f0.f1.any fun n=>!hasT t n
set_option maxHeartbeats 4000000 in
set_option maxRecDepth 100000 in
theorem edge_pred (n:ByteArray) (B:Nat) (y:ByteArray) (A1:Option Addr) (m c1:Nat) (W:World) (hB:W.cell? ⟨B,0,none⟩=some (.string n)) :
  Calls Try.prog 54 #[.agg #[.string y,.slice A1 m c1],.pointer (some ⟨B,0,none⟩)] W fun e w'=>e=.returned (.bool (decide (y=n)))∧Below W.heap.size W w':=by
 have hu:=Try.underlying53
 have hB1:(W.alloc (.cells #[.string y,.slice A1 m c1] 53)).cell? ⟨B,0,none⟩=some (.string n):=Lib.cell?_alloc_some _ hB
 have hr:=Az.mk (same_eq y n)
 generalize decide (y=n)=r at hr ⊢
 have hBl:=World.block_lt_of_cell? W _ hB
 clear hB
 go_enter Try.func54,Try.ntmps54
 go_wp2
 go_ret
 refine ⟨?_,below_alloc (Below.refl _ _) _⟩
 rw [← hr.out]
 rfl
set_option maxHeartbeats 4000000 in
set_option maxRecDepth 100000 in
theorem there_pred (n:ByteArray) (B:Nat) (A:Option Addr) (c:Nat) (t:Tr) (W:World) (hB:W.cell? ⟨B,0,none⟩=some (.slice A t.length c)) (hC:Kd.C k53 W A t.length t) (hl:t.length≤1000000000000) :
  Calls Try.prog 53 #[.string n,.pointer (some ⟨B,0,none⟩)] W fun e w'=>e=.returned (.bool (hasT t n))∧Below W.heap.size W w':=by
 have eg:∀ args w,(callFunc 54 args).run Try.prog w=.ok (.enter 54 args) w:=enters_of Try.func54 (by kernel_rfl) rfl
 have hB1:(W.alloc (.cells #[.string n] 9)).cell? ⟨B,0,none⟩=_:=Lib.cell?_alloc_some _ hB
 have hcon:=anyE 54 #[.pointer (some ⟨W.heap.size,0,none⟩)] eg A c t (fun i=>(t[i]?).elim false fun x=>decide (x.f0=n)) (W.alloc (.cells #[.string n] 9)) (Kd.C_alloc hC _) hl
  (fun i hi W' B1 c2 hW hC hc=>by
   have hb0:(W.alloc (.cells #[.string n] 9)).cell? ⟨W.heap.size,0,none⟩=some (.string n):=by simp
   have hb:=(hW.cell (World.block_lt_of_cell? _ _ hb0)).trans hb0
   have:=edge_pred n W.heap.size (t[i]).f0 B1 (t[i]).f1.length c2 W' hb
   rw [List.getElem?_eq_getElem hi]
   exact this)
 rw [anyN_list] at hcon
 change Calls _ _ _ _ (fun e w'=>e=.returned (.bool (hasT t n))∧_) at hcon
 have hBl:=World.block_lt_of_cell? W _ hB
 clear hB hC
 generalize hasT t n=r at hcon ⊢
 generalize t.length=m at hB1 hcon hl
 go_enter Try.func53,Try.ntmps53
 go_wp2_with (go_at_call 36;refine hcon.mono ?_;rintro e w' ⟨rfl,hb'⟩)
 go_ret
 exact ⟨rfl,below_then (below_alloc (Below.refl _ _) _) (by simp) hb'⟩
set_option maxHeartbeats 4000000 in
set_option maxRecDepth 100000 in
theorem nowhere_pred (n:ByteArray) (B B2:Nat) (A:Option Addr) (c:Nat) (t:Tr) (W:World) (hB:W.cell? ⟨B,0,none⟩=some (.slice A t.length c)) (hB2:W.cell? ⟨B2,0,none⟩=some (.func (.func 53) #[] #[.pointer (some ⟨B,0,none⟩)])) (hC:Kd.C k53 W A t.length t) (hl:t.length≤1000000000000) :
  Calls Try.prog 56 #[.string n,.pointer (some ⟨B2,0,none⟩)] W fun e w'=>e=.returned (.bool (!hasT t n))∧Below W.heap.size W w':=by
 have hcon:=there_pred n B A c t W hB hC hl
 generalize hasT t n=r at hcon ⊢
 clear hB hC hl
 go_enter Try.func56,Try.ntmps56
 go_wp2_with (go_at_call 53;refine hcon.mono ?_;rintro e w' ⟨rfl,hb'⟩)
 go_ret
 exact ⟨rfl,hb'⟩
set_option maxHeartbeats 4000000 in
set_option maxRecDepth 100000 in
theorem lacks_calls (A0:Option Addr) (c0:Nat) (t:Tr) (f:S40) (A1:Option Addr) (c1:Nat) (w:World) (hT:Kd.C k53 w A0 t.length t) (hC:Kd.C Kd.string w A1 f.f0.f1.length f.f0.f1) (hc:f.f0.f1.length≤c1) (hl:t.length≤1000000000000) (hf:f.f0.f1.length≤1000000000000) :
  Calls Try.prog 33 #[.slice A0 t.length c0,.agg #[.bool f.f0.f0,.slice A1 f.f0.f1.length c1,.int .i64 f.f1,.bool f.f2]] w fun e w'=>e=.returned (.bool (lacksM t f))∧Below w.heap.size w w':=by
 have eg:∀ args w,(callFunc 56 args).run Try.prog w=.ok (.enter 56 args) w:=enters_of Try.func56 (by kernel_rfl) rfl
 have hcon:∀ W,Below w.heap.size w W→W.cell? ⟨w.heap.size,0,none⟩=some (.slice A0 t.length c0)→W.cell? ⟨w.heap.size+1+1,0,none⟩=some (.func (.func 53) #[] #[.pointer (some ⟨w.heap.size,0,none⟩)])→Calls Try.prog 55 #[.slice A1 f.f0.f1.length c1,.func (.func 56) #[] #[.pointer (some ⟨w.heap.size+1+1,0,none⟩)]] W fun e w'=>e=.returned (.bool (f.f0.f1.any fun n=>!hasT t n))∧Below W.heap.size W w':=fun W hW hb1 hb2=>by
  have:=anyS 56 #[.pointer (some ⟨w.heap.size+1+1,0,none⟩)] eg A1 c1 f.f0.f1 (fun i=>(f.f0.f1[i]?).elim false fun n=>!hasT t n) W (Kd.C_below hC hW) hf
   (fun i hi W' hW'=>by
    have h1:=(hW'.cell (World.block_lt_of_cell? _ _ hb1)).trans hb1
    have h2:=(hW'.cell (World.block_lt_of_cell? _ _ hb2)).trans hb2
    have:=nowhere_pred (f.f0.f1[i]) w.heap.size (w.heap.size+1+1) A0 c0 t W' h1 h2 (Kd.C_below (Kd.C_below hT hW) hW') hl
    rw [List.getElem?_eq_getElem hi]
    exact this)
  rw [anyN_list] at this
  exact this
 unfold lacksM
 generalize (f.f0.f1.any fun n=>!hasT t n)=r at hcon ⊢
 have HCON:=Az.mk hcon
 clear hcon hT hC
 have hu:=Try.underlying40
 have hu2:=Try.underlying38
 generalize f.f0.f0=y0 at *
 generalize f.f0.f1.length=m at *
 generalize f.f1=y1 at *
 generalize t.length=n at *
 cases hy:f.f2 with
 | false =>
  go_enter Try.func33,Try.ntmps33
  go_wp2
  go_ret
  exact ⟨rfl,below_alloc (below_alloc (below_alloc (Below.refl _ _) _) _) _⟩
 | true =>
  go_enter Try.func33,Try.ntmps33
  go_wp2_with (go_at_call 55;go_loud (refine (HCON.out _ ?s1 ?s2 ?s3).mono ?_;(case s1=>exact below_alloc (below_alloc (below_alloc (Below.refl _ _) _) _) _);(case s2=>exact Lib.cell?_alloc_some _ (Lib.cell?_alloc_some _ (cell_new _ _ _ _ _ rfl rfl)));(case s3=>exact cell_new _ _ _ _ _ (by simp) rfl);rintro e w' ⟨rfl,hb'⟩))
  go_ret
  exact ⟨rfl,below_then (below_alloc (below_alloc (below_alloc (Below.refl _ _) _) _) _) (by simp;omega) hb'⟩
end Go.Proofs.Ytoihiehoolehiaa.PX
set_option linter.unusedVariables false
set_option linter.unusedSimpArgs false
namespace Go.Proofs.Ytoihiehoolehiaa.PX
open Go.RowKit Go.Proofs.YtoihiehoolehiaaW.PrintWords Go.Proofs.YtoihiehoolehiaaW.PrintLast Go.Proofs.YtoihiehoolehiaaW.PrintMore Go.Proofs.Ytoihiehoolehiaa Go.Shelf
def levelM (s:Sc) (d:Int) (t:Tr):Bool :=
 if d < 0∨(s.length:Int)≤d then false
 else if ((rd_T33 s d).f1 && !decide (t.length=1)) || ((rd_T33 s d).f2 && decide (t.length=0)) then false
 else !((rd_T33 s d).f0.any (lacksM t)) && !(t.any fun x=>decide (toM s d x.f0 < 0))
set_option maxHeartbeats 4000000 in
set_option maxRecDepth 100000 in
theorem lacks_pred (B:Nat) (A0:Option Addr) (c0:Nat) (t:Tr) (f:S40) (A1:Option Addr) (c1:Nat) (w:World) (hB:w.cell? ⟨B,0,none⟩=some (.slice A0 t.length c0)) (hT:Kd.C k53 w A0 t.length t) (hC:Kd.C Kd.string w A1 f.f0.f1.length f.f0.f1) (hc:f.f0.f1.length≤c1) (hl:t.length≤1000000000000) (hf:f.f0.f1.length≤1000000000000) :
  Calls Try.prog 32 #[.agg #[.bool f.f0.f0,.slice A1 f.f0.f1.length c1,.int .i64 f.f1,.bool f.f2],.pointer (some ⟨B,0,none⟩)] w fun e w'=>e=.returned (.bool (lacksM t f))∧Below w.heap.size w w':=by
 have hcon:=lacks_calls A0 c0 t f A1 c1 (w.alloc (.cells #[.bool f.f0.f0,.slice A1 f.f0.f1.length c1,.int .i64 f.f1,.bool f.f2] 40)) (Kd.C_alloc hT _) (Kd.C_alloc hC _) hc hl hf
 have hB1:(w.alloc (.cells #[.bool f.f0.f0,.slice A1 f.f0.f1.length c1,.int .i64 f.f1,.bool f.f2] 40)).cell? ⟨B,0,none⟩=_:=Lib.cell?_alloc_some _ hB
 clear hT hC hB
 generalize lacksM t f=r at hcon ⊢
 generalize f.f0.f0=y0 at *
 generalize f.f0.f1.length=m at *
 generalize f.f1=y1 at *
 generalize f.f2=y2 at *
 generalize t.length=n at *
 have hu:=Try.underlying40
 have hu2:=Try.underlying38
 go_enter Try.func32,Try.ntmps32
 go_wp2_with (go_at_call 33;refine hcon.mono ?_;rintro e w' ⟨rfl,hb'⟩)
 go_ret
 exact ⟨rfl,below_then (below_alloc (Below.refl _ _) _) (by simp) hb'⟩
set_option maxHeartbeats 4000000 in
set_option maxRecDepth 100000 in
theorem none_pred (B B2:Nat) (A0:Option Addr) (c0:Nat) (s:Sc) (d:Int) (x:S53) (A1:Option Addr) (c1:Nat) (w:World) (hB:w.cell? ⟨B,0,none⟩=some (.slice A0 s.length c0)) (hB2:w.cell? ⟨B2,0,none⟩=some (.int .i64 d)) (hS:Kd.C k33 w A0 s.length s) (hc:s.length≤c0) (hok:ScOk s) :
  Calls Try.prog 34 #[.agg #[.string x.f0,.slice A1 x.f1.length c1],.pointer (some ⟨B,0,none⟩),.pointer (some ⟨B2,0,none⟩)] w fun e w'=>e=.returned (.bool (decide (toM s d x.f0 < 0)))∧Below w.heap.size w w':=by
 have hcon:=schema_To.calls A0 c0 s d x.f0 (toM s d x.f0) (w.alloc (.cells #[.string x.f0,.slice A1 x.f1.length c1] 53)) (Kd.C_alloc hS _) hc (by unfold schema_To.f;rw [if_pos hok])
 have hB1:(w.alloc (.cells #[.string x.f0,.slice A1 x.f1.length c1] 53)).cell? ⟨B,0,none⟩=_:=Lib.cell?_alloc_some _ hB
 have hB3:(w.alloc (.cells #[.string x.f0,.slice A1 x.f1.length c1] 53)).cell? ⟨B2,0,none⟩=_:=Lib.cell?_alloc_some _ hB2
 clear hS hB hB2 hok
 generalize toM s d x.f0=r at hcon ⊢
 generalize x.f0=y0 at *
 generalize x.f1.length=m at *
 generalize s.length=n at *
 have hu:=Try.underlying53
 go_enter Try.func34,Try.ntmps34
 go_wp2_with (go_at_call 20;refine hcon.mono ?_;rintro e w' ⟨rfl,hb'⟩)
 go_ret
 exact ⟨rfl,below_then (below_alloc (Below.refl _ _) _) (by simp) hb'⟩
def schema_Level.f (l0:Sc) (a1:Int) (l2:Tr):Option Bool:=if ScOk l0∧l2.length≤1000000000000 then some (levelM l0 a1 l2) else none
set_option maxHeartbeats 16000000 in
set_option maxRecDepth 100000 in
theorem schema_Level.calls (A0:Option Addr) (c0:Nat) (l0:List S33) (a1:Int) (A2:Option Addr) (c2:Nat) (l2:List S53) (r:Bool) (w:World) (hr0:Kd.C k33 w A0 l0.length l0) (hc0:l0.length≤c0) (hr2:Kd.C k53 w A2 l2.length l2) (hc2:l2.length≤c2) (h:schema_Level.f l0 a1 l2=some r) :
  Calls Try.prog 16 #[.slice A0 l0.length c0,.int .i64 a1,.slice A2 l2.length c2] w fun e w'=>e=.returned (.bool r)∧Below w.heap.size w w':=by
 unfold schema_Level.f at h
 split at h
 case isFalse=>cases h
 rename_i hok
 obtain ⟨hok,hl⟩:=hok
 obtain rfl:=Option.some.inj h
 clear h
 have hu:=Try.underlying33
 have hu2:=Try.underlying40
 by_cases h1:a1 < 0
 ·rw [levelM,if_pos (.inl h1)]
  clear hr0 hok hc0 hr2 hl hc2
  generalize l0.length=n
  generalize l2.length=m
  go_enter Try.func16,Try.ntmps16
  go_wp2
  go_ret
  exact ⟨rfl,below_alloc (below_alloc (below_alloc (Below.refl _ _) _) _) _⟩
 by_cases h2:a1 < (l0.length:Int)
 ·rw [levelM,if_neg (by omega)]
  have hm:=rdD_mem (by omega) h2
  obtain ⟨hf1,hf2⟩:=hok.2 _ hm
  clear hm
  obtain ⟨ad,A1,c1,e0,hx0,hx1,hx2,hx3,hx4⟩:=at_T33 hr0 a1 (by omega) h2
  have eg:∀ args w,(callFunc 32 args).run Try.prog w=.ok (.enter 32 args) w:=enters_of Try.func32 (by kernel_rfl) rfl
  have eg2:∀ args w,(callFunc 34 args).run Try.prog w=.ok (.enter 34 args) w:=enters_of Try.func34 (by kernel_rfl) rfl
  generalize (rd_T33 l0 a1).f0=fs at hx0 hx3 hx4 hf1 hf2 ⊢
  generalize (rd_T33 l0 a1).f1=one at hx1 ⊢
  generalize (rd_T33 l0 a1).f2=som at hx2 ⊢
  have HL1:Az (∀ W,Below w.heap.size w W→W.cell? ⟨w.heap.size+1+1,0,none⟩=some (.slice A2 l2.length c2)→Calls Try.prog 35 #[.slice A1 fs.length c1,.func (.func 32) #[] #[.pointer (some ⟨w.heap.size+1+1,0,none⟩)]] W fun e w'=>e=.returned (.bool (fs.any (lacksM l2)))∧Below W.heap.size W w'∧w'.cell? ⟨w.heap.size+1+1,0,none⟩=some (.slice A2 l2.length c2)):=⟨fun W hW hb=>by
   have:=anyF 32 #[.pointer (some ⟨w.heap.size+1+1,0,none⟩)] eg A1 c1 fs (fun i=>(fs[i]?).elim false (lacksM l2)) W (Kd.C_below hx4 hW) hf1
    (fun i hi W' B1 c3 hW' hC hc=>by
     have hb1:=(hW'.cell (World.block_lt_of_cell? _ _ hb)).trans hb
     have:=lacks_pred (w.heap.size+1+1) A2 c2 l2 (fs[i]) B1 c3 W' hb1 (Kd.C_below (Kd.C_below hr2 hW) hW') (Kd.C_below hC hW') hc hl (hf2 _ (List.getElem_mem hi))
     rw [List.getElem?_eq_getElem hi]
     exact this)
   rw [anyN_list] at this
   exact this.mono fun e w' h=>⟨h.1,h.2,(h.2.cell (World.block_lt_of_cell? _ _ hb)).trans hb⟩⟩
  have HL2:Az (∀ W W',Below w.heap.size w W→W.cell? ⟨w.heap.size,0,none⟩=some (.slice A0 l0.length c0)→W.cell? ⟨w.heap.size+1,0,none⟩=some (.int .i64 a1)→Below W.heap.size W W'→Calls Try.prog 36 #[.slice A2 l2.length c2,.func (.func 34) #[] #[.pointer (some ⟨w.heap.size,0,none⟩),.pointer (some ⟨w.heap.size+1,0,none⟩)]] W' fun e w'=>e=.returned (.bool (l2.any fun x=>decide (toM l0 a1 x.f0 < 0)))∧Below W'.heap.size W' w'):=⟨fun W W0 hW hba hbb hWW=>by
   have hba:=(hWW.cell (World.block_lt_of_cell? _ _ hba)).trans hba
   have hbb:=(hWW.cell (World.block_lt_of_cell? _ _ hbb)).trans hbb
   have hW:=below_then hW hW.size hWW
   have:=anyE 34 #[.pointer (some ⟨w.heap.size,0,none⟩),.pointer (some ⟨w.heap.size+1,0,none⟩)] eg2 A2 c2 l2 (fun i=>(l2[i]?).elim false fun x=>decide (toM l0 a1 x.f0 < 0)) W0 (Kd.C_below hr2 hW) hl
    (fun i hi W' B1 c3 hW' hC hc=>by
     have hb1:=(hW'.cell (World.block_lt_of_cell? _ _ hba)).trans hba
     have hb2:=(hW'.cell (World.block_lt_of_cell? _ _ hbb)).trans hbb
     have:=none_pred w.heap.size (w.heap.size+1) A0 c0 l0 a1 (l2[i]) B1 c3 W' hb1 hb2 (Kd.C_below (Kd.C_below hr0 hW) hW') hc0 hok
     rw [List.getElem?_eq_getElem hi]
     exact this)
   rw [anyN_list] at this
   exact this⟩
  clear hr0 hr2 hx4 hf2 hx3 hok hf1 hc0 eg eg2 hc2
  generalize fs.any (lacksM l2)=r1 at HL1 ⊢
  generalize (l2.any fun x=>decide (toM l0 a1 x.f0 < 0))=r2 at HL2 ⊢
  generalize fs.length=nf at hx0 HL1
  subst e0
  generalize l0.length=n0 at h2 HL2 ⊢
  generalize l2.length=n2 at hl HL1 HL2 ⊢
  have hx0':=Lib.cell?_alloc_some (.cells #[.slice A2 n2 c2] 46) (Lib.cell?_alloc_some (.cells #[.int .i64 a1] 3) (Lib.cell?_alloc_some (.cells #[.slice (some ad) n0 c0] 23) hx0))
  have hx1':=Lib.cell?_alloc_some (.cells #[.slice A2 n2 c2] 46) (Lib.cell?_alloc_some (.cells #[.int .i64 a1] 3) (Lib.cell?_alloc_some (.cells #[.slice (some ad) n0 c0] 23) hx1))
  have hx2':=Lib.cell?_alloc_some (.cells #[.slice A2 n2 c2] 46) (Lib.cell?_alloc_some (.cells #[.int .i64 a1] 3) (Lib.cell?_alloc_some (.cells #[.slice (some ad) n0 c0] 23) hx2))
  clear hx0 hx1 hx2
  have e1:((n2:Int) == 1)=decide (n2=1):=by rw [Bool.eq_iff_iff,beq_iff_eq,decide_eq_true_eq];omega
  have e2:((n2:Int) != 1) = !decide (n2=1):=by rw [bne,e1]
  have e3:((n2:Int) == 0)=decide (n2=0):=by rw [Bool.eq_iff_iff,beq_iff_eq,decide_eq_true_eq];omega
  generalize decide (n2=1)=q1 at e1 e2 ⊢
  generalize decide (n2=0)=q0 at e3 ⊢
  cases one <;> cases som <;> cases q1 <;> cases q0 <;> cases r1 <;> (
   go_enter Try.func16,Try.ntmps16
   go_wp2_with (first
    | (go_at_call 35;refine (HL1.out _ ?s1 ?s2).mono ?_;(case s1=>exact below_alloc (below_alloc (below_alloc (below_alloc (Below.refl _ _) _) _) _) _);(case s2=>exact Lib.cell?_alloc_some _ (cell_new _ _ _ _ _ (by simp) rfl));rintro e w' ⟨rfl,hb',hc'⟩)
    | (go_at_call 36;refine (HL2.out _ _ ?s1 ?s2 ?s3 hb').mono ?_;(case s1=>exact below_alloc (below_alloc (below_alloc (below_alloc (Below.refl _ _) _) _) _) _);(case s2=>exact Lib.cell?_alloc_some _ (Lib.cell?_alloc_some _ (Lib.cell?_alloc_some _ (cell_new _ _ _ _ _ rfl rfl))));(case s3=>exact Lib.cell?_alloc_some _ (Lib.cell?_alloc_some _ (cell_new _ _ _ _ _ (by simp) rfl)));rintro e w'' ⟨rfl,hb''⟩))
   go_ret
   first
    | exact ⟨rfl,below_alloc (below_alloc (below_alloc (below_alloc (Below.refl _ _) _) _) _) _⟩
    | exact ⟨rfl,below_then (below_alloc (below_alloc (below_alloc (below_alloc (Below.refl _ _) _) _) _) _) (by simp;omega) hb'⟩
    | exact ⟨rfl,below_then (below_then (below_alloc (below_alloc (below_alloc (below_alloc (Below.refl _ _) _) _) _) _) (by simp;omega) hb') (Nat.le_trans (by simp;omega) hb'.size) hb''⟩)
 ·rw [levelM,if_pos (.inr (by omega))]
  clear hr0 hok hc0 hr2 hl hc2
  generalize l0.length=n at h2 ⊢
  generalize l2.length=m
  go_enter Try.func16,Try.ntmps16
  go_wp2
  go_ret
  exact ⟨rfl,below_alloc (below_alloc (below_alloc (Below.refl _ _) _) _) _⟩
end Go.Proofs.Ytoihiehoolehiaa.PX
set_option linter.unusedVariables false
set_option linter.unusedSimpArgs false
namespace Go.Proofs.Ytoihiehoolehiaa.PX
open Go.RowKit Go.Proofs.YtoihiehoolehiaaW.PrintWords Go.Proofs.YtoihiehoolehiaaW.PrintLast Go.Proofs.YtoihiehoolehiaaW.PrintMore Go.Proofs.Ytoihiehoolehiaa Go.Shelf
def fitsT1:Bool × List (List Nat × List Nat):=(true,[([],[]),([],[]),([],[]),([],[]),([3],[3]),([1,2,4],[1,2,4]),([],[]),([6],[6]),([0,5,7,5],[0,5,7]),([8],[8]),([9,8,0,1,2,3,4,5,6,7,8,9],[9])])
def fitsB1:List Nat:=[0,0,0,0,8,30,0,64,255,511,1023]
theorem fits_tab:rtab .any (opsOf Try.f38 1)=fitsT1:=by kernel_rfl
theorem fits_bits:waitsOk fitsT1.2 fitsB1=true:=by kernel_rfl
set_option maxHeartbeats 8000000 in
set_option maxRecDepth 100000 in
theorem fits_pred (B B2:Nat) (A0:Option Addr) (c0:Nat) (s:Sc) (d:Int) (y:ByteArray) (A1:Option Addr) (m c1:Nat) (r:Bool) (W:World) (hB:W.cell? ⟨B,0,none⟩=some (.slice A0 s.length c0)) (hB2:W.cell? ⟨B2,0,none⟩=some (.int .i64 d)) (hS:Kd.C k33 W A0 s.length s) (hc:s.length≤c0) (hok:ScOk s)
  (hF:∀ W',Below W.heap.size W W'→Calls Try.prog 18 #[.slice A0 s.length c0,.int .i64 (toM s d y),.slice A1 m c1] W' fun e w'=>e=.returned (.bool r)∧Below W'.heap.size W' w') :
  Calls Try.prog 38 #[.agg #[.string y,.slice A1 m c1],.pointer (some ⟨B,0,none⟩),.pointer (some ⟨B2,0,none⟩)] W fun e w'=>e=.returned (.bool (!r))∧Below W.heap.size W w':=by
 have HT:Az (∀ W',Below W.heap.size W W'→Calls Try.prog 20 #[.slice A0 s.length c0,.int .i64 d,.string y] W' fun e w'=>e=.returned (.int .i64 (toM s d y))∧Below W'.heap.size W' w'):=⟨fun W' hW=>schema_To.calls A0 c0 s d y (toM s d y) W' (Kd.C_below hS hW) hc (by unfold schema_To.f;rw [if_pos hok])⟩
 have HF:=Az.mk hF
 clear hF hS
 generalize toM s d y=d2 at HT HF
 generalize s.length=n at hB hc HT HF
 clear hok hc
 have hu:=Try.underlying53
 have hg1:Az (∀ W',Below (W.alloc (.cells #[.string y,.slice A1 m c1] 53)).heap.size (W.alloc (.cells #[.string y,.slice A1 m c1] 53)) W'→W'.cell? ⟨B,0,none⟩=some (.slice A0 n c0)∧W'.cell? ⟨B2,0,none⟩=some (.int .i64 d)∧W'.cell? ⟨W.heap.size,0,none⟩=some (.string y)∧W'.cell? ⟨W.heap.size,1,none⟩=some (.slice A1 m c1)):=⟨fun W' h=>by
  have q1:=Lib.cell?_alloc_some (.cells #[.string y,.slice A1 m c1] 53) hB
  have q2:=Lib.cell?_alloc_some (.cells #[.string y,.slice A1 m c1] 53) hB2
  have q3:=cell_new W #[.string y,.slice A1 m c1] 53 W.heap.size 0 rfl rfl
  have q4:=cell_new W #[.string y,.slice A1 m c1] 53 W.heap.size 1 rfl rfl
  exact ⟨(h.cell (World.block_lt_of_cell? _ _ q1)).trans q1,(h.cell (World.block_lt_of_cell? _ _ q2)).trans q2,(h.cell (World.block_lt_of_cell? _ _ q3)).trans q3,(h.cell (World.block_lt_of_cell? _ _ q4)).trans q4⟩⟩
 clear hB hB2
 go_enter Try.func38,Try.ntmps38
 try go_wp2
 have HB0:=Az.mk (below_alloc (Below.refl W.heap.size W) (.cells #[.string y,.slice A1 m c1] 53))
 have HB1:=Az.mk (Below.refl (W.alloc (.cells #[.string y,.slice A1 m c1] 53)).heap.size (W.alloc (.cells #[.string y,.slice A1 m c1] 53)))
 generalize hw1:W.alloc (.cells #[.string y,.slice A1 m c1] 53)=W1 at HB0 HB1 hg1 ⊢
 clear hw1
 refine start_ (n:=11) (S:=fun w'=>w'.cell? ⟨B,0,none⟩=some (.slice A0 n c0)∧w'.cell? ⟨B2,0,none⟩=some (.int .i64 d)∧w'.cell? ⟨W.heap.size,0,none⟩=some (.string y)∧w'.cell? ⟨W.heap.size,1,none⟩=some (.slice A1 m c1)) (ds:=[]) #[false,false,false,false,false,false,false,false,false,false,false] (by kernel_rfl) rfl rfl (hg1.out _ (bD_ HB1.out)) (fun hHeld=>?_);refine with_tabW fits_tab fits_bits (fun HT_ HW_=>?_)
 have HB2:=Az.mk (bD_ HB1.out)
 have HB3:=Az.mk (bD_ HB0.out)
 generalize W1.drew=W2 at HB2 HB3 hHeld ⊢
 clear HB0 HB1
 refine pure_ (i:=3) (N:=some 8) (v:=?_) (a':=?_) #[false,false,false,true,false,false,false,false,false,false,false] rfl rfl (any_of HT_.out (by kernel_rfl)) (fun _ _ _ h=>h) (Or.inl ⟨by rfl,?_⟩) ?_ ?_
 rotate_left
 ·intro w'
  go_simp
  with_reducible rfl
 rotate_left
 ·simp only [Act.put,List.setIfInBounds_toArray,List.set_cons_zero,List.set_cons_succ,i64_w,i32_w]
  rfl
 refine pure_ (i:=6) (N:=some 11) (v:=?_) (a':=?_) #[false,false,false,true,false,false,true,false,false,false,false] rfl rfl (any_of HT_.out (by kernel_rfl)) (fun _ _ _ h=>h) (Or.inl ⟨by rfl,?_⟩) ?_ ?_
 rotate_left
 ·intro w'
  go_simp
  with_reducible rfl
 rotate_left
 ·simp only [Act.put,List.setIfInBounds_toArray,List.set_cons_zero,List.set_cons_succ,i64_w,i32_w]
  rfl
 refine take_ (i:=0) (N:=some 5) (v:=?_) (a':=?_) #[true,false,false,true,false,false,true,false,false,false,false] rfl rfl (take_ofW HT_.out HW_.out (by kernel_rfl)) (fun _ _ _ h=>h) (Or.inl ⟨by rfl,?_⟩) hHeld ?_ ?_
 rotate_left
 ·rintro w' ⟨s0,s1,s2,s3⟩
  go_simp
  with_reducible rfl
 rotate_left
 ·simp only [Act.put,List.setIfInBounds_toArray,List.set_cons_zero,List.set_cons_succ,i64_w,i32_w]
  rfl
 refine take_ (i:=1) (N:=some 6) (v:=?_) (a':=?_) #[true,true,false,true,false,false,true,false,false,false,false] rfl rfl (take_ofW HT_.out HW_.out (by kernel_rfl)) (fun _ _ _ h=>h) (Or.inl ⟨by rfl,?_⟩) hHeld ?_ ?_
 rotate_left
 ·rintro w' ⟨s0,s1,s2,s3⟩
  go_simp
  with_reducible rfl
 rotate_left
 ·simp only [Act.put,List.setIfInBounds_toArray,List.set_cons_zero,List.set_cons_succ,i64_w,i32_w]
  rfl
 refine take_ (i:=2) (N:=some 7) (v:=?_) (a':=?_) #[true,true,true,true,false,false,true,false,false,false,false] rfl rfl (take_ofW HT_.out HW_.out (by kernel_rfl)) (fun _ _ _ h=>h) (Or.inl ⟨by rfl,?_⟩) hHeld ?_ ?_
 rotate_left
 ·rintro w' ⟨s0,s1,s2,s3⟩
  go_simp
  with_reducible rfl
 rotate_left
 ·simp only [Act.put,List.setIfInBounds_toArray,List.set_cons_zero,List.set_cons_succ,i64_w,i32_w]
  rfl
 refine take_ (i:=4) (N:=some 9) (v:=?_) (a':=?_) #[true,true,true,true,true,false,true,false,false,false,false] rfl rfl (take_ofW HT_.out HW_.out (by kernel_rfl)) (fun _ _ _ h=>h) (Or.inl ⟨by rfl,?_⟩) hHeld ?_ ?_
 rotate_left
 ·rintro w' ⟨s0,s1,s2,s3⟩
  go_simp
  with_reducible rfl
 rotate_left
 ·simp only [Act.put,List.setIfInBounds_toArray,List.set_cons_zero,List.set_cons_succ,i64_w,i32_w]
  rfl
 refine take_ (i:=7) (N:=some 12) (v:=?_) (a':=?_) #[true,true,true,true,true,false,true,true,false,false,false] rfl rfl (take_ofW HT_.out HW_.out (by kernel_rfl)) (fun _ _ _ h=>h) (Or.inl ⟨by rfl,?_⟩) hHeld ?_ ?_
 rotate_left
 ·rintro w' ⟨s0,s1,s2,s3⟩
  go_simp
  with_reducible rfl
 rotate_left
 ·simp only [Act.put,List.setIfInBounds_toArray,List.set_cons_zero,List.set_cons_succ,i64_w,i32_w]
  rfl
 refine one_ (i:=5) (N:=some 10) #[true,true,true,true,true,true,true,true,false,false,false] rfl rfl (one_of HT_.out (by kernel_rfl)) (by decide) (fun K hK=>?_)
 refine goes_ Try.func20 (by kernel_rfl) rfl #[.slice A0 n c0,.int .i64 d,.string y] (by rfl) rfl rfl (by (try simp only [List.map_toArray,List.map_cons,List.map_nil]);first|done|rfl) ?_
 refine (HT.out _ HB3.out).mono ?_
 rintro e w3 ⟨rfl,hb⟩
 refine ⟨_,rfl,?_⟩
 have n0_:=Az.mk (below_then HB2.out HB2.out.size hb)
 have n1_:=Az.mk (below_then HB3.out HB3.out.size hb)
 clear HB2 HB3 hb
 have HB2:=n0_
 have HB3:=n1_
 clear n0_ n1_
 refine hK.out _ _ (hg1.out _ HB2.out) (fun hHeld=>?_)
 clear hK K
 refine norm_ (a':=?_) ?_ ?_
 rotate_left
 ·show Act.put _ (some 10) _=_
  simp only [Act.put,List.setIfInBounds_toArray,List.set_cons_zero,List.set_cons_succ,i64_w,i32_w]
  rfl
 refine one_ (i:=8) (N:=some 13) #[true,true,true,true,true,true,true,true,true,false,false] rfl rfl (one_of HT_.out (by kernel_rfl)) (by decide) (fun K hK=>?_)
 refine goes_ Try.func18 (by kernel_rfl) rfl #[.slice A0 n c0,.int .i64 d2,.slice A1 m c1] (by rfl) rfl rfl (by (try simp only [List.map_toArray,List.map_cons,List.map_nil]);first|done|rfl) ?_
 refine (HF.out _ HB3.out).mono ?_
 rintro e w3 ⟨rfl,hb⟩
 refine ⟨_,rfl,?_⟩
 have n0_:=Az.mk (below_then HB2.out HB2.out.size hb)
 have n1_:=Az.mk (below_then HB3.out HB3.out.size hb)
 clear HB2 HB3 hb
 have HB2:=n0_
 have HB3:=n1_
 clear n0_ n1_
 refine hK.out _ _ (hg1.out _ HB2.out) (fun hHeld=>?_)
 clear hK K
 refine norm_ (a':=?_) ?_ ?_
 rotate_left
 ·show Act.put _ (some 13) _=_
  simp only [Act.put,List.setIfInBounds_toArray,List.set_cons_zero,List.set_cons_succ,i64_w,i32_w]
  rfl
 refine pure_ (i:=9) (N:=some 14) (v:=?_) (a':=?_) #[true,true,true,true,true,true,true,true,true,true,false] rfl rfl (any_of HT_.out (by kernel_rfl)) (fun _ _ _ h=>h) (Or.inl ⟨by rfl,?_⟩) ?_ ?_
 rotate_left
 ·intro w'
  go_simp
  with_reducible rfl
 rotate_left
 ·simp only [Act.put,List.setIfInBounds_toArray,List.set_cons_zero,List.set_cons_succ,i64_w,i32_w]
  rfl
 refine pure_ (i:=10) (N:=some 4) (v:=?_) (a':=?_) #[true,true,true,true,true,true,true,true,true,true,true] rfl rfl (any_of HT_.out (by kernel_rfl)) (fun _ _ _ h=>h) (Or.inl ⟨by rfl,?_⟩) ?_ ?_
 rotate_left
 ·intro w'
  go_simp
  with_reducible rfl
 rotate_left
 ·simp only [Act.put,List.setIfInBounds_toArray,List.set_cons_zero,List.set_cons_succ,i64_w,i32_w]
  rfl
 refine done_ (done_of HT_.out (by kernel_rfl)) ?_
 try go_wp2
 go_ret
 exact ⟨rfl,HB3.out⟩
theorem all_att {α:Type} (l:List α) (f:α→Bool):(l.attach.all fun x=>f x.1)=l.all f:=by
 rw [Bool.eq_iff_iff,List.all_eq_true,List.all_eq_true]
 exact ⟨fun h x hx=>h ⟨x,hx⟩ (List.mem_attach _ _),fun h x _=>h x.1 x.2⟩
theorem kids_lt {t:Tr} {x:S53} (h:x ∈ t):SizeOf.sizeOf x.f1 < SizeOf.sizeOf t:=by
 have h1:=List.sizeOf_lt_of_mem h
 have h2:SizeOf.sizeOf x.f1 < SizeOf.sizeOf x:=by
  cases x
  simp [S53.f1]
  omega
 omega
def trOk (t:Tr):Bool:=decide (t.length≤1000000000000) && t.attach.all fun x=>trOk x.1.f1
termination_by SizeOf.sizeOf t
decreasing_by exact kids_lt x.2
def fitsM (s:Sc) (d:Int) (t:Tr):Bool:=levelM s d t && t.attach.all fun x=>fitsM s (toM s d x.1.f0) x.1.f1
termination_by SizeOf.sizeOf t
decreasing_by exact kids_lt x.2
theorem trOk_eq (t:Tr):trOk t=(decide (t.length≤1000000000000) && t.all fun x=>trOk x.f1):=by
 rw [trOk]
 congr 1
 exact all_att t fun x=>trOk x.f1
theorem fitsM_eq (s:Sc) (d:Int) (t:Tr):fitsM s d t=(levelM s d t && t.all fun x=>fitsM s (toM s d x.f0) x.f1):=by
 rw [fitsM]
 congr 1
 exact all_att t fun x=>fitsM s (toM s d x.f0) x.f1
set_option maxHeartbeats 8000000 in
set_option maxRecDepth 100000 in
theorem fits_calls (s:Sc) (hok:ScOk s):∀ (N:Nat) (t:Tr),SizeOf.sizeOf t≤N→trOk t=true→∀ (A0:Option Addr) (c0:Nat) (d:Int) (A2:Option Addr) (c2:Nat) (w:World),Kd.C k33 w A0 s.length s→s.length≤c0→Kd.C k53 w A2 t.length t→t.length≤c2 →
  Calls Try.prog 18 #[.slice A0 s.length c0,.int .i64 d,.slice A2 t.length c2] w fun e w'=>e=.returned (.bool (fitsM s d t))∧Below w.heap.size w w'
 | 0,t,hN,_=>by cases t <;> simp at hN
 | N+1,t,hN,ht=>by
  intro A0 c0 d A2 c2 w hS hc0 hT hc2
  rw [trOk_eq,Bool.and_eq_true,decide_eq_true_eq,List.all_eq_true] at ht
  have HL:Az (∀ W,Below w.heap.size w W→Calls Try.prog 16 #[.slice A0 s.length c0,.int .i64 d,.slice A2 t.length c2] W fun e w'=>e=.returned (.bool (levelM s d t))∧Below W.heap.size W w'):=⟨fun W hW=>schema_Level.calls A0 c0 s d A2 c2 t _ W (Kd.C_below hS hW) hc0 (Kd.C_below hT hW) hc2 (by unfold schema_Level.f;rw [if_pos ⟨hok,ht.1⟩])⟩
  have eg:∀ args w,(callFunc 38 args).run Try.prog w=.ok (.enter 38 args) w:=enters_of Try.func38 (by kernel_rfl) rfl
  have HA:Az (∀ W W',Below w.heap.size w W→W.cell? ⟨w.heap.size,0,none⟩=some (.slice A0 s.length c0)→W.cell? ⟨w.heap.size+1,0,none⟩=some (.int .i64 d)→Below W.heap.size W W'→Calls Try.prog 36 #[.slice A2 t.length c2,.func (.func 38) #[] #[.pointer (some ⟨w.heap.size,0,none⟩),.pointer (some ⟨w.heap.size+1,0,none⟩)]] W' fun e w'=>e=.returned (.bool (t.any fun x=>!fitsM s (toM s d x.f0) x.f1))∧Below W'.heap.size W' w'):=⟨fun W W0 hW hba hbb hWW=>by
   have hba:=(hWW.cell (World.block_lt_of_cell? _ _ hba)).trans hba
   have hbb:=(hWW.cell (World.block_lt_of_cell? _ _ hbb)).trans hbb
   have hW:=below_then hW hW.size hWW
   have:=anyE 38 #[.pointer (some ⟨w.heap.size,0,none⟩),.pointer (some ⟨w.heap.size+1,0,none⟩)] eg A2 c2 t (fun i=>(t[i]?).elim false fun x=>!fitsM s (toM s d x.f0) x.f1) W0 (Kd.C_below hT hW) ht.1
    (fun i hi W' B1 c3 hW' hC hc=>by
     have hb1:=(hW'.cell (World.block_lt_of_cell? _ _ hba)).trans hba
     have hb2:=(hW'.cell (World.block_lt_of_cell? _ _ hbb)).trans hbb
     have hm:=List.getElem_mem hi
     have hlt:=kids_lt hm
     have hS':=Kd.C_below (Kd.C_below hS hW) hW'
     have:=fits_pred w.heap.size (w.heap.size+1) A0 c0 s d (t[i]).f0 B1 (t[i]).f1.length c3 (fitsM s (toM s d (t[i]).f0) (t[i]).f1) W' hb1 hb2 hS' hc0 hok
      (fun W3 hW3=>fits_calls s hok N (t[i]).f1 (by omega) (ht.2 _ hm) A0 c0 _ B1 c3 W3 (Kd.C_below hS' hW3) hc0 (Kd.C_below (Kd.C_below hC hW') hW3) hc)
     rw [List.getElem?_eq_getElem hi]
     exact this)
   rw [anyN_list] at this
   exact this⟩
  rw [fitsM_eq]
  have hq:(t.all fun x=>fitsM s (toM s d x.f0) x.f1) = !(t.any fun x=>!fitsM s (toM s d x.f0) x.f1):=by
   rw [List.not_any_eq_all_not]
   simp
  rw [hq]
  clear hq ht eg hT hS hN hc0 hc2
  generalize (t.any fun x=>!fitsM s (toM s d x.f0) x.f1)=r at HA ⊢
  generalize levelM s d t=l at HL ⊢
  generalize s.length=n at HL HA ⊢
  generalize t.length=m at HL HA ⊢
  cases l with
  | false =>
   go_enter Try.func18,Try.ntmps18
   go_wp2_with (go_at_call 16;refine (HL.out _ ?s1).mono ?_;(case s1=>exact below_alloc (below_alloc (Below.refl _ _) _) _);rintro e w' ⟨rfl,hb'⟩)
   go_ret
   exact ⟨rfl,below_then (below_alloc (below_alloc (Below.refl _ _) _) _) (by simp;omega) hb'⟩
  | true =>
   go_enter Try.func18,Try.ntmps18
   go_wp2_with (first
    | (go_at_call 16;refine (HL.out _ ?s1).mono ?_;(case s1=>exact below_alloc (below_alloc (Below.refl _ _) _) _);rintro e w' ⟨rfl,hb'⟩)
    | (go_at_call 36;refine (HA.out _ _ ?s1 ?s2 ?s3 hb').mono ?_;(case s1=>exact below_alloc (below_alloc (Below.refl _ _) _) _);(case s2=>exact Lib.cell?_alloc_some _ (cell_new _ _ _ _ _ rfl rfl));(case s3=>exact cell_new _ _ _ _ _ (by simp) rfl);rintro e w'' ⟨rfl,hb''⟩))
   go_ret
   exact ⟨rfl,below_then (below_then (below_alloc (below_alloc (Below.refl _ _) _) _) (by simp;omega) hb') (Nat.le_trans (by simp;omega) hb'.size) hb''⟩
def schema_Fits.f (l0:Sc) (a1:Int) (l2:Tr):Option Bool:=if ScOk l0∧trOk l2=true then some (fitsM l0 a1 l2) else none
theorem schema_Fits.calls (A0:Option Addr) (c0:Nat) (l0:List S33) (a1:Int) (A2:Option Addr) (c2:Nat) (l2:List S53) (r:Bool) (w:World) (hr0:Kd.C k33 w A0 l0.length l0) (hc0:l0.length≤c0) (hr2:Kd.C k53 w A2 l2.length l2) (hc2:l2.length≤c2) (h:schema_Fits.f l0 a1 l2=some r) :
  Calls Try.prog 18 #[.slice A0 l0.length c0,.int .i64 a1,.slice A2 l2.length c2] w fun e w'=>e=.returned (.bool r)∧Below w.heap.size w w':=by
 unfold schema_Fits.f at h
 split at h
 case isFalse=>cases h
 rename_i hok
 obtain rfl:=Option.some.inj h
 exact fits_calls l0 hok.1 _ l2 (Nat.le_refl _) hok.2 A0 c0 a1 A2 c2 w hr0 hc0 hr2 hc2
end Go.Proofs.Ytoihiehoolehiaa.PX
set_option linter.unusedVariables false
namespace Go.Proofs.Ytoihiehoolehiaa.PX
open Go.RowKit Go.Proofs.YtoihiehoolehiaaW.PrintWords Go.Proofs.YtoihiehoolehiaaW.PrintLast Go.Proofs.YtoihiehoolehiaaW.PrintMore Go.Proofs.Ytoihiehoolehiaa
theorem rdD_nat {l:Sc} {i:Nat} (h:i < l.length):rd_T33 l (i:Int)=l[i]:=by simp [rd_T33,List.getD_eq_getElem?_getD,h]
theorem trOk_nil:trOk []=true:=by rw [trOk_eq];rfl
end Go.Proofs.Ytoihiehoolehiaa.PX
set_option linter.unusedVariables false
set_option linter.unusedSimpArgs false
namespace Go.Proofs.Ytoihiehoolehiaa.PX
open Go.RowKit Go.Proofs.YtoihiehoolehiaaW.PrintWords Go.Proofs.YtoihiehoolehiaaW.PrintLast Go.Proofs.YtoihiehoolehiaaW.PrintMore Go.ChangeShapes Go.WideShapes Go.ChangeAt Go.Deep
section
variable {H:Type} {enc:TypeId × Value→H} {w:World}
theorem open_strsC {fuel:Nat} {cs:List Value} {x:DataW H × List MemPlace} (h:DataW.trod enc Try.prog w 0 (fun _=>true) true fuel 36 cs=some x)
  (hw:∀ n ∈ x.1.weights Try.prog 36,n≤reachBytes) :
  ∃ (A:Option Addr) (cap:Nat) (l:List ByteArray),cs = [.slice A l.length cap]∧l.length≤cap∧Kd.C Kd.string w A l.length l∧l.length≤8796093022207:=by
 have bS:Try.prog.bytesOf 9=16:=by kernel_rfl
 rcases open_strings Try.underlying36 Try.underlying9 (by kernel_rfl) h with ⟨hcs,_⟩|⟨a,len,cap,ss,hcs,_,hl,hm,hz,hx,hcell,_⟩
 ·exact ⟨none,0,[],hcs,Nat.le_refl _,Kd.C_nil _ _,by simp⟩
 ·simp only [if_true] at hz
  have hx1:x.1=.slice (strs (ss.take len)) (strs (ss.drop len)):=congrArg Prod.fst hx
  rw [hx1] at hw
  have hb:len * 16≤reachBytes:=by
   have:=hw _ (by rw [DataW.weights,Try.underlying36];simp only [bS];exact List.mem_cons_self)
   simp only [strs,List.length_map,List.length_take,List.length_drop] at this
   omega
  have htl:(ss.take len).length=len:=by rw [List.length_take];omega
  refine ⟨some a,cap,ss.take len,by rw [htl];exact hcs,by rw [htl];exact hl,Kd.C_of_reads (d:=ByteArray.empty) (h1:=fun _=>rfl) ⟨rfl,by rw [htl];unfold maxLen at hm;omega,fun hp=>⟨a,rfl,fun j hj=>?_⟩⟩,by rw [htl];unfold reachBytes at hb;omega⟩
  rw [htl] at hj
  rw [hcell j (by omega)]
  simp [List.getD_eq_getElem?_getD,List.getElem?_take,hj]
end
end Go.Proofs.Ytoihiehoolehiaa.PX
set_option linter.unusedVariables false
set_option linter.unusedSimpArgs false
set_option maxRecDepth 100000
namespace Go.Proofs.Ytoihiehoolehiaa.PX
open Go.RowKit Go.Proofs.YtoihiehoolehiaaW.PrintWords Go.Proofs.YtoihiehoolehiaaW.PrintLast Go.Proofs.YtoihiehoolehiaaW.PrintMore Go.ChangeShapes Go.WideShapes Go.ChangeAt Go.Deep
section
variable {H:Type} {enc:TypeId × Value→H} {w:World}
theorem open_namesC {fuel:Nat} {cs:List Value} {x:DataW H × List MemPlace} (h:DataW.trod enc Try.prog w 0 (fun _=>true) true fuel 38 cs=some x)
  (hw:∀ n ∈ x.1.weights Try.prog 38,n≤reachBytes) :
  ∃ (b:Bool) (A:Option Addr) (cap:Nat) (l:List ByteArray),cs = [.bool b,.slice A l.length cap]∧l.length≤cap∧Kd.C Kd.string w A l.length l∧l.length≤8796093022207:=by
 obtain ⟨y0,y1,n,hx,hl,h0,h1⟩:=trod_struct2 Try.underlying38 h
 have h2:Try.prog.cellsOf 38=2:=by kernel_rfl
 have e1:Try.prog.cellsOf 4=1:=by kernel_rfl
 have e2:Try.prog.cellsOf 36=1:=by kernel_rfl
 rw [h2] at hl
 have hx1:x.1=.agg [y0.1,y1.1]:=congrArg Prod.fst hx
 match cs,hl with
 | [u0,u1],_ =>
  simp only [e1,e2,List.drop_zero,List.drop_succ_cons,List.take_succ_cons,List.take_zero] at h0 h1
  obtain ⟨b,hb,_⟩:=DataW.trod_bool Try.underlying4 h0
  obtain ⟨A,cap,l,hc,h4,h5,h6⟩:=open_strsC h1 (fun q hq=>hw q (by
   rw [hx1,DataW.weights,Try.underlying38]
   simp only [List.map_cons,List.map_nil,DataW.weightsEach]
   exact List.mem_append_right _ (List.mem_append_left _ hq)))
  simp only [List.cons.injEq,and_true] at hb hc
  subst hb hc
  exact ⟨b,A,cap,l,rfl,h4,h5,h6⟩
end
end Go.Proofs.Ytoihiehoolehiaa.PX
set_option linter.unusedVariables false
set_option linter.unusedSimpArgs false
set_option maxRecDepth 100000
namespace Go.Proofs.Ytoihiehoolehiaa.PX
open Go.RowKit Go.Proofs.YtoihiehoolehiaaW.PrintWords Go.Proofs.YtoihiehoolehiaaW.PrintLast Go.Proofs.YtoihiehoolehiaaW.PrintMore Go.ChangeShapes Go.WideShapes Go.ChangeAt Go.Deep
section
variable {H:Type} {enc:TypeId × Value→H} {w:World}
theorem cells_of {a:Addr} {n:Nat} {cs:List Value} (h:w.cells? 0 a n=some cs):cs.length=n∧∀ i u,cs[i]? = some u→w.cell? (a.add i)=some u:=by
 obtain ⟨_,h1,h2⟩:=World.cells?_some h
 exact ⟨h1,fun i u hu=>(h2 i (by rw [← h1];exact (List.getElem?_eq_some_iff.1 hu).1)).trans hu⟩
theorem add_add2 (a:Addr) (i j:Nat):(a.add i).add j=a.add (i+j):=by
 unfold Addr.add
 by_cases hi:i=0 <;> by_cases hj:j=0 <;> simp [hi,hj,Nat.add_assoc]
theorem open_rowsC {α:Type} [Inhabited α] (K:Kd α) {T TS:TypeId} {b:Nat} (P:α→Prop) (uT:Try.prog.underlying TS=some (.slice T)) (cT:Try.prog.cellsOf T=K.sz) (bT:Try.prog.bytesOf T=b)
  (el:∀ (fuel:Nat) (cs:List Value) (x:DataW H × List MemPlace),DataW.trod enc Try.prog w 0 (fun _=>true) true fuel T cs=some x→(∀ n ∈ x.1.weights Try.prog T,n≤reachBytes)→∃ q,K.K w q cs∧P q)
  {fuel:Nat} {cs:List Value} {x:DataW H × List MemPlace} (h:DataW.trod enc Try.prog w 0 (fun _=>true) true fuel TS cs=some x) (hw:∀ n ∈ x.1.weights Try.prog TS,n≤reachBytes) :
  ∃ (A:Option Addr) (cap:Nat) (l:List α),cs = [.slice A l.length cap]∧l.length≤cap∧Kd.C K w A l.length l∧l.length * b≤reachBytes∧∀ q ∈ l,P q:=by
 rcases open_slice uT h with ⟨rfl,rfl⟩|⟨a,len,cap,m,n,D,Pl,rfl,_,hl,hm,hmm,hx,hel⟩
 ·exact ⟨none,0,[],rfl,Nat.le_refl _,Kd.C_nil _ _,by simp,by simp⟩
 ·simp only [if_true] at hmm
  subst hmm
  rw [cT] at hel
  have hd:x.1=.slice ((List.range len).map D) ((List.range (m - len)).map fun j=>D (len+j)):=by rw [hx]
  rw [hd] at hw
  have hw0:len * b≤reachBytes:=by
   have:=hw ((((List.range len).map D).length+((List.range (m - len)).map fun j=>D (len+j)).length) * b) (by rw [DataW.weights,uT];simp only [bT];exact List.mem_cons_self)
   simp only [List.length_map,List.length_range] at this
   exact Nat.le_trans (Nat.mul_le_mul_right _ (by omega)) this
  have hwi:∀ i,i < len→∀ q ∈ (D i).weights Try.prog T,q≤reachBytes:=by
   intro i hi q hq
   refine hw q ?_
   rw [DataW.weights,uT]
   refine List.mem_cons_of_mem _ (List.mem_append_left _ ?_)
   have:∀ (L:List (DataW H)),D i ∈ L→q ∈ DataW.weightsAll Try.prog T L:=by
    intro L
    induction L with
    | nil=>simp
    | cons d L ih2 =>
     intro hm
     rw [DataW.weightsAll]
     rcases List.mem_cons.1 hm with e|hm
     ·exact List.mem_append_left _ (e ▸ hq)
     ·exact List.mem_append_right _ (ih2 hm)
   exact this _ (List.mem_map.2 ⟨i,List.mem_range.2 hi,rfl⟩)
  obtain ⟨f,hf⟩:=choose_lt (α:=α) (n:=len) (p:=fun i q=>(∃ c,c.length=K.sz∧K.K w q c∧∀ j u,c[j]? = some u→w.cell? (a.add (i * K.sz+j))=some u)∧P q) (fun i hi=>by
   obtain ⟨c,hc1,hc2⟩:=hel i (by omega)
   obtain ⟨hcl,hcc⟩:=cells_of hc1
   obtain ⟨q,hq,hp⟩:=el n c (D i,Pl i) hc2 (hwi i hi)
   refine ⟨q,⟨c,hcl,hq,fun j u hu=>?_⟩,hp⟩
   have:=hcc j u hu
   rwa [add_add2] at this)
  refine ⟨some a,m,(List.range len).map f,by simp,by simpa using hl,⟨by simp,by simp;unfold maxLen at hm;omega,fun hp=>⟨a,rfl,fun j p hj=>?_⟩⟩,by simpa using hw0,fun q hq=>?_⟩
  ·rw [List.getElem?_map] at hj
   obtain ⟨j',hj',rfl⟩:=Option.map_eq_some_iff.1 hj
   have hjl:j < len:=by have:=(List.getElem?_eq_some_iff.1 hj').1;simpa using this
   have:j'=j:=by rw [List.getElem?_range hjl] at hj';injection hj' with hj';exact hj'.symm
   subst this
   obtain ⟨c,h1,h2,h3⟩:=(hf j' hjl).1
   exact ⟨c,h1,h2,h3⟩
  ·obtain ⟨i,hi,rfl⟩:=List.mem_map.1 hq
   exact (hf i (List.mem_range.1 hi)).2
theorem trod_struct3_ {t:TypeId} {f0 f1 f2:Go.Field} {fuel:Nat} {cs:List Value} {x:DataW H × List MemPlace} (ht:Try.prog.underlying t=some (.struct #[f0,f1,f2])) (h:DataW.trod enc Try.prog w 0 (fun _=>true) true fuel t cs=some x) :
  ∃ y0 y1 y2 n,x.1=.agg [y0.1,y1.1,y2.1]∧cs.length=Try.prog.cellsOf t∧DataW.trod enc Try.prog w 0 (fun _=>true) true n f0.type ((cs.drop f0.offset).take (Try.prog.cellsOf f0.type))=some y0 ∧
   DataW.trod enc Try.prog w 0 (fun _=>true) true n f1.type ((cs.drop f1.offset).take (Try.prog.cellsOf f1.type))=some y1∧DataW.trod enc Try.prog w 0 (fun _=>true) true n f2.type ((cs.drop f2.offset).take (Try.prog.cellsOf f2.type))=some y2:=by
 obtain ⟨xs,n,_,rfl,hl,hlen,hf⟩:=DataW.trod_struct ht h
 match xs,hlen with
 | [y0,y1,y2],_=>exact ⟨y0,y1,y2,n,by simp,hl,by simpa using hf 0 f0 rfl,by simpa using hf 1 f1 rfl,by simpa using hf 2 f2 rfl⟩
instance:Inhabited S40:=⟨z40⟩
instance:Inhabited S33:=⟨z33⟩
theorem open_fieldC (fuel:Nat) (cs:List Value) (x:DataW H × List MemPlace) (h:DataW.trod enc Try.prog w 0 (fun _=>true) true fuel 40 cs=some x)
  (hw:∀ n ∈ x.1.weights Try.prog 40,n≤reachBytes):∃ q:S40,k40.K w q cs∧q.f0.f1.length≤8796093022207:=by
 obtain ⟨y0,y1,y2,n,hx1,hl,h0,h1,h2⟩:=trod_struct3_ Try.underlying40 h
 have e0:Try.prog.cellsOf 40=4:=by kernel_rfl
 have e1:Try.prog.cellsOf 38=2:=by kernel_rfl
 have e2:Try.prog.cellsOf 3=1:=by kernel_rfl
 have e3:Try.prog.cellsOf 4=1:=by kernel_rfl
 rw [e0] at hl
 match cs,hl with
 | [u0,u1,u2,u3],_ =>
  simp only [e1,e2,e3,List.drop_zero,List.drop_succ_cons,List.take_succ_cons,List.take_zero] at h0 h1 h2
  obtain ⟨b,A,cap,l,hc,h4,h5,h6⟩:=open_namesC h0 (fun q hq=>hw q (by
   rw [hx1,DataW.weights,Try.underlying40]
   simp only [List.map_cons,List.map_nil,DataW.weightsEach]
   exact List.mem_append_left _ hq))
  obtain ⟨i,hi,_⟩:=DataW.trod_int Try.underlying3 h1
  obtain ⟨b2,hb,_⟩:=DataW.trod_bool Try.underlying4 h2
  simp only [List.cons.injEq,and_true] at hc hi hb
  obtain ⟨rfl,rfl⟩:=hc
  subst hi hb
  exact ⟨⟨⟨b,l⟩,i,b2⟩,k40_mk w ⟨⟨b,l⟩,i,b2⟩ h4 h5,h6⟩
def DefIn (d:S33):Prop:=d.f0.length≤4398046511104∧∀ f ∈ d.f0,f.f0.f1.length≤8796093022207
theorem open_defC (fuel:Nat) (cs:List Value) (x:DataW H × List MemPlace) (h:DataW.trod enc Try.prog w 0 (fun _=>true) true fuel 33 cs=some x)
  (hw:∀ n ∈ x.1.weights Try.prog 33,n≤reachBytes):∃ q:S33,k33.K w q cs∧DefIn q:=by
 obtain ⟨y0,y1,y2,n,hx1,hl,h0,h1,h2⟩:=trod_struct3_ Try.underlying33 h
 have e0:Try.prog.cellsOf 33=3:=by kernel_rfl
 have e1:Try.prog.cellsOf 31=1:=by kernel_rfl
 have e3:Try.prog.cellsOf 4=1:=by kernel_rfl
 rw [e0] at hl
 match cs,hl with
 | [u0,u1,u2],_ =>
  simp only [e1,e3,List.drop_zero,List.drop_succ_cons,List.take_succ_cons,List.take_zero] at h0 h1 h2
  obtain ⟨A,cap,l,hc,h4,h5,h6,h7⟩:=open_rowsC k40 (b:=48) (fun q:S40=>q.f0.f1.length≤8796093022207) Try.underlying31 (by kernel_rfl) (by kernel_rfl) open_fieldC h0 (fun q hq=>hw q (by
   rw [hx1,DataW.weights,Try.underlying33]
   simp only [List.map_cons,List.map_nil,DataW.weightsEach]
   exact List.mem_append_left _ hq))
  obtain ⟨b1,hb1,_⟩:=DataW.trod_bool Try.underlying4 h1
  obtain ⟨b2,hb2,_⟩:=DataW.trod_bool Try.underlying4 h2
  simp only [List.cons.injEq,and_true] at hc hb1 hb2
  subst hc hb1 hb2
  exact ⟨⟨l,b1,b2⟩,k33_mk w ⟨l,b1,b2⟩ h4 h5,by show l.length≤_;unfold reachBytes at h6;omega,h7⟩
def ScIn (s:List S33):Prop:=s.length≤4398046511104∧∀ d ∈ s,DefIn d
theorem open_schemaK {v:Value} {d:DataW H} {p:List MemPlace} {ts:List TypeId} {ds:List (DataW H)} {j:Nat} (hv:∃ A len cap,v=.slice A len cap) (h:DataW.Trod enc Try.prog w 0 (fun _=>true) true 23 v d p)
  (hsz:(DataW.weightsEach Try.prog ts ds).all (·≤ reachBytes)=true) (ht:ts[j]? = some 23) (hd:ds[j]? = some d) :
  ∃ (A:Option Addr) (cap:Nat) (l:List S33),v=.slice A l.length cap∧l.length≤cap∧Kd.C k33 w A l.length l∧ScIn l:=by
 obtain ⟨A,len,cap,rfl⟩:=hv
 obtain ⟨fuel,hf⟩:=h
 obtain ⟨A',cap',l,e,hl,hC,hR,hP⟩:=open_rowsC (enc:=enc) (w:=w) k33 (b:=32) DefIn Try.underlying23 (by kernel_rfl) (by kernel_rfl) open_defC hf (fun n hn=>by
  have:=List.all_eq_true.1 hsz _ (DataW.weights_mem_each ht hd n hn)
  simpa using this)
 simp only [Value.cells,List.cons.injEq,and_true,Value.slice.injEq] at e
 obtain ⟨rfl,rfl,rfl⟩:=e
 exact ⟨A,cap,l,rfl,hl,hC,by unfold reachBytes at hR;omega,hP⟩
end
end Go.Proofs.Ytoihiehoolehiaa.PX
namespace Go.Proofs.Ytoihiehoolehiaa.PX
open Go.RowKit Go.Proofs.YtoihiehoolehiaaW.PrintWords Go.Proofs.YtoihiehoolehiaaW.PrintLast Go.Proofs.YtoihiehoolehiaaW.PrintMore
attribute [local go_sem] max2_int min2_int max_two min_two max_three min_three max_four min_four   
set_option linter.unusedVariables false
set_option linter.unusedSimpArgs false
attribute [local go_sem] run_field_87_0
def cadenceref3_put.l0:Nat→List ByteArray→ByteArray→Int→Option (List ByteArray)
 | 0,_,_,_=>none
 | k+1,x0,x1,x5=>if x5 < (x0.length:Int) then (if 0≤x5 then (if (Op.bytesLess ((rdOf ByteArray.empty x0 x5).toList) x1.toList)=true then (cadenceref3_put.l0 k x0 x1 (wrap64 (x5+1))) else (if (rdOf ByteArray.empty x0 x5).toList=x1.toList then (some x0) else (if x5≤(x0.length:Int) then ((some (x0.take (x5:Int).toNat:List ByteArray)).bind fun y129=>(if ([]:List ByteArray).length+y129.length < 8796093022208 then ((some (([]:List ByteArray) ++ y129:List ByteArray)).bind fun y133=>(if y133.length < 8796093022208 then ((some (y133 ++ [x1]:List ByteArray)).bind fun y136=>((some (x0.drop (x5:Int).toNat:List ByteArray)).bind fun y139=>(if y136.length+y139.length < 8796093022208 then (some (y136 ++ y139)) else (none)))) else (none))) else (none))) else (none)))) else (none)) else (if 0≤x5 then (if x5≤(x0.length:Int) then ((some (x0.take (x5:Int).toNat:List ByteArray)).bind fun y146=>(if ([]:List ByteArray).length+y146.length < 8796093022208 then ((some (([]:List ByteArray) ++ y146:List ByteArray)).bind fun y150=>(if y150.length < 8796093022208 then ((some (y150 ++ [x1]:List ByteArray)).bind fun y153=>((some (x0.drop (x5:Int).toNat:List ByteArray)).bind fun y156=>(if y153.length+y156.length < 8796093022208 then (some (y153 ++ y156)) else (none)))) else (none))) else (none))) else (none)) else (none))
def cadenceref3_put.f (k:Nat) (l0:List ByteArray) (a1:ByteArray):Option (List ByteArray):=cadenceref3_put.l0 k l0 a1 0
theorem cadenceref3_put.mono_l:∀ k,(∀ y0 y1 y2,LeO (cadenceref3_put.l0 k y0 y1 y2) (cadenceref3_put.l0 (k+1) y0 y1 y2))
 | 0=>fun _ _ _ r h=>by simp [cadenceref3_put.l0] at h
 | k+1=>by
  have ih0:=cadenceref3_put.mono_l k
  ·intro y0 y1 y2
   unfold cadenceref3_put.l0
   repeat' first
   | (with_reducible exact ih0 _ _ _)
   | (with_reducible exact LeO.refl _)
   | (with_reducible exact LeO.none _)
   | (with_reducible refine LeO.ite ?_ ?_)
   | (with_reducible refine LeO.bind ?_ (fun _=>?_))
   | exact ih0 _ _ _
   | exact LeO.none _
   | refine LeO.ite ?_ ?_
   | refine LeO.bind ?_ (fun _=>?_)
theorem cadenceref3_put.mono:∀ a0 a1 k,LeO (cadenceref3_put.f k a0 a1) (cadenceref3_put.f (k+1) a0 a1):=by
 intro a0 a1 k
 have ih0:=cadenceref3_put.mono_l k
 unfold cadenceref3_put.f
 repeat' first
   | (with_reducible exact ih0 _ _ _)
   | (with_reducible exact LeO.refl _)
   | (with_reducible exact LeO.none _)
   | (with_reducible refine LeO.ite ?_ ?_)
   | (with_reducible refine LeO.bind ?_ (fun _=>?_))
   | exact ih0 _ _ _
   | exact LeO.none _
   | refine LeO.ite ?_ ?_
   | refine LeO.bind ?_ (fun _=>?_)
set_option maxHeartbeats 8000000 in
set_option maxRecDepth 100000 in
theorem cadenceref3_put.calls (k:Nat) (P0_:Nat→Prop) (u9000_:Value) (l0:List ByteArray) (a1:ByteArray) (r:List ByteArray) (w0 w:World) (hB:Below w0.heap.size w0 w) (ho0:Kd.R Kd.string 9 w w0.heap.size P0_ u9000_ l0) (h:cadenceref3_put.f k l0 a1=some r) :
  Calls Try.prog 45 #[u9000_,.string a1] w fun e w'=>∃ v0_:Value,e=.returned (v0_)∧Kd.R Kd.string 9 w' w0.heap.size (fun k_=>(P0_ k_∨w.heap.size≤k_)) v0_ r∧Below w0.heap.size w0 w'∧Kept w w' (fun k_=>P0_ k_):=by
 have HO0:=Az.mk (show Kd.R Kd.string 9 w w0.heap.size (fun k_=>(P0_ k_∨w.heap.size≤k_)) u9000_ l0 from Kd.R_mono ho0 (fun k_ hk=>(.inl hk)))
 have HK:=Az.mk (Kept.refl w (fun k_=>P0_ k_))
 have HW0:=Az.mk hB.size
 have HB:=Az.mk hB
 clear hB
 have H:(cadenceref3_put.l0 k l0 a1 0)=some r:=h
 clear h
 have H':=Az.mk H
 clear H
 go_enter Try.func45,Try.ntmps45
 go_wp2
 go_loopg [5] k (fun kq v5 w'=>∃ (x5_1:Int),v5=.int .i64 x5_1∧Az (cadenceref3_put.l0 kq l0 a1 x5_1=some r)∧Az (kq≤k)∧Az (Kd.R Kd.string 9 w' w0.heap.size (fun k_=>(P0_ k_∨w.heap.size≤k_)) u9000_ l0)∧Az (Kept w w' (fun k_=>P0_ k_))∧Az (Below w0.heap.size w0 w'))
 case atStart=>exact ⟨(0),(by first|rfl|(simp;done)|(simp [*];done)),H',⟨Nat.le_refl _⟩,⟨by (with_reducible repeat (first|apply rA_|apply rN_|apply rD_));exact HO0.out⟩,⟨by repeat (first|(with_reducible first|exact HK.out|apply Kept.alloc|apply Kept.drewN|apply Kept.drew)|exact HK.out)⟩,⟨by repeat (first|(with_reducible first|exact HB.out|apply bA_|apply bN_|apply bD_)|exact HB.out)⟩⟩
 case round =>
  clear H'
  try clear p2
  obtain ⟨x5_1,rfl,HA,HK1,HO_0,HK,HB⟩:=hrel
  cases gk with
  | zero=>exact absurd HA.out (by simp [cadenceref3_put.l0])
  | succ k1 =>
   have H:=HA.out
   clear HA
   simp only [cadenceref3_put.l0] at H
   by_cases c3:x5_1 < (l0.length:Int)
   ·rw [if_pos c3] at H
    have c3b0:decide (x5_1 < (l0.length:Int))=true:=decide_eq_true c3
    clear c3
    by_cases c4:0≤x5_1
    ·rw [if_pos c4] at H
     have c4b0:decide (0≤x5_1)=true:=decide_eq_true c4
     clear c4
     by_cases c5:(Op.bytesLess ((rdOf ByteArray.empty l0 x5_1).toList) a1.toList)=true
     ·rw [if_pos c5] at H
      have c5b0:(Op.bytesLess ((rdOf ByteArray.empty l0 x5_1).toList) a1.toList)=true:=c5
      clear c5
      have H':=Az.mk H
      clear H
      obtain ⟨Ao6,co6,eo6⟩:=Kd.R_slice HO_0.out
      subst eo6
      have p127:0≤(x5_1:Int):=of_decide_eq_true (by first|(with_reducible assumption)|assumption)
      have q127:x5_1 < (l0.length:Int):=of_decide_eq_true (by first|(with_reducible assumption)|assumption)
      obtain ⟨ad127,e127,hx127_0⟩:=Kd.at_string (Kd.R_reads' HO_0.out).2.2 x5_1 p127 q127
      cases e127
      replace p127:=eq_true p127
      replace q127:=eq_true q127
      go_wp2
      go_roundg k1
      case measure=>have:=HK1.out;omega
      case rel=>exact ⟨(wrap64 (x5_1+1)),(by first|rfl|(simp;done)|(simp [*];done)),H',⟨by have:=HK1.out;omega⟩,⟨by (with_reducible repeat (first|apply rA_|apply rN_|apply rD_));exact HO_0.out⟩,⟨by repeat (first|(with_reducible first|exact HK.out|apply Kept.alloc|apply Kept.drewN|apply Kept.drew)|exact HK.out)⟩,⟨by repeat (first|(with_reducible first|exact HB.out|apply bA_|apply bN_|apply bD_)|exact HB.out)⟩⟩
     ·rw [if_neg c5] at H
      have c5b0:(Op.bytesLess ((rdOf ByteArray.empty l0 x5_1).toList) a1.toList)=false:=by simpa using c5
      clear c5
      by_cases c7:(rdOf ByteArray.empty l0 x5_1).toList=a1.toList
      ·rw [if_pos c7] at H
       have c7b0:((rdOf ByteArray.empty l0 x5_1).toList == a1.toList)=true:=beq_iff_eq.mpr c7
       have c7b1:((rdOf ByteArray.empty l0 x5_1).toList != a1.toList)=false:=bne_eq_false_iff_eq.mpr c7
       clear c7
       obtain rfl:=Option.some.inj H
       obtain ⟨Ao8,co8,eo8⟩:=Kd.R_slice HO_0.out
       subst eo8
       have p127:0≤(x5_1:Int):=of_decide_eq_true (by first|(with_reducible assumption)|assumption)
       have q127:x5_1 < (l0.length:Int):=of_decide_eq_true (by first|(with_reducible assumption)|assumption)
       obtain ⟨ad127,e127,hx127_0⟩:=Kd.at_string (Kd.R_reads' HO_0.out).2.2 x5_1 p127 q127
       cases e127
       replace p127:=eq_true p127
       replace q127:=eq_true q127
       have p128:0≤(x5_1:Int):=of_decide_eq_true (by first|(with_reducible assumption)|assumption)
       have q128:x5_1 < (l0.length:Int):=of_decide_eq_true (by first|(with_reducible assumption)|assumption)
       obtain ⟨ad128,e128,hx128_0⟩:=Kd.at_string (Kd.R_reads' HO_0.out).2.2 x5_1 p128 q128
       obtain rfl:ad127=ad128:=(by injection e128)
       replace p128:=eq_true p128
       replace q128:=eq_true q128
       go_wp2
       go_ret
       exact ⟨_,by first|rfl|(simp [errW_none,errW_some] <;> rfl)|(simp [*,errW_none,errW_some] <;> rfl),by (with_reducible repeat (first|apply rA_|apply rN_|apply rD_));exact HO_0.out,by repeat (first|(with_reducible first|exact HB.out|apply bA_|apply bN_|apply bD_)|exact HB.out),by repeat (first|(with_reducible first|exact HK.out|apply Kept.alloc|apply Kept.drewN|apply Kept.drew)|exact HK.out)⟩
      ·rw [if_neg c7] at H
       have c7b0:((rdOf ByteArray.empty l0 x5_1).toList == a1.toList)=false:=beq_eq_false_iff_ne.mpr c7
       have c7b1:((rdOf ByteArray.empty l0 x5_1).toList != a1.toList)=true:=bne_iff_ne.mpr c7
       have c9b0:=eq_true (of_decide_eq_true (by first|(with_reducible assumption)|assumption):0≤x5_1)
       by_cases c10:x5_1≤(l0.length:Int)
       ·rw [if_pos c10] at H
        have c10b0:=eq_true c10
        have c10b1:decide (x5_1≤(l0.length:Int))=true:=decide_eq_true c10
        clear c10
        obtain ⟨y129,hy129⟩:∃ y_:List ByteArray,y_=(l0.take (x5_1:Int).toNat):=⟨_,rfl⟩
        replace H:(if ([]:List ByteArray).length+y129.length < 8796093022208 then ((some (([]:List ByteArray) ++ y129:List ByteArray)).bind fun y133=>(if y133.length < 8796093022208 then ((some (y133 ++ [a1]:List ByteArray)).bind fun y136=>((some (l0.drop (x5_1:Int).toNat:List ByteArray)).bind fun y139=>(if y136.length+y139.length < 8796093022208 then (some (y136 ++ y139)) else (none)))) else (none))) else (none))=some r:=by first|(rw [hy129];with_reducible exact H)|(have H2_:=(Option.bind_some _ _).symm.trans H;rw [hy129];with_reducible exact H2_)|(have H2_:=(Option.bind_some _ _).symm.trans H;with_reducible exact H2_)|with_reducible exact H|(rw [hy129];exact H)|exact H
        have Ny129:=Az.mk hy129
        clear hy129
        by_cases c11:([]:List ByteArray).length+y129.length < 8796093022208
        ·rw [if_pos c11] at H
         have LMc11:=Az.mk c11
         clear c11
         obtain ⟨y133,hy133⟩:∃ y_:List ByteArray,y_=(([]:List ByteArray) ++ y129):=⟨_,rfl⟩
         replace H:(if y133.length < 8796093022208 then ((some (y133 ++ [a1]:List ByteArray)).bind fun y136=>((some (l0.drop (x5_1:Int).toNat:List ByteArray)).bind fun y139=>(if y136.length+y139.length < 8796093022208 then (some (y136 ++ y139)) else (none)))) else (none))=some r:=by first|(rw [hy133];with_reducible exact H)|(have H2_:=(Option.bind_some _ _).symm.trans H;rw [hy133];with_reducible exact H2_)|(have H2_:=(Option.bind_some _ _).symm.trans H;with_reducible exact H2_)|with_reducible exact H|(rw [hy133];exact H)|exact H
         have Ny133:=Az.mk hy133
         clear hy133
         by_cases c12:y133.length < 8796093022208
         ·rw [if_pos c12] at H
          have LMc12:=Az.mk c12
          clear c12
          obtain ⟨y136,hy136⟩:∃ y_:List ByteArray,y_=(y133 ++ [a1]):=⟨_,rfl⟩
          replace H:((some (l0.drop (x5_1:Int).toNat:List ByteArray)).bind fun y139=>(if y136.length+y139.length < 8796093022208 then (some (y136 ++ y139)) else (none)))=some r:=by first|(rw [hy136];with_reducible exact H)|(have H2_:=(Option.bind_some _ _).symm.trans H;rw [hy136];with_reducible exact H2_)|(have H2_:=(Option.bind_some _ _).symm.trans H;with_reducible exact H2_)|with_reducible exact H|(rw [hy136];exact H)|exact H
          have Ny136:=Az.mk hy136
          clear hy136
          have c13b0:=eq_true (of_decide_eq_true (by first|(with_reducible assumption)|assumption):0≤x5_1)
          have c14b0:=eq_true (of_decide_eq_true (by first|(with_reducible assumption)|assumption):x5_1≤(l0.length:Int))
          obtain ⟨y139,hy139⟩:∃ y_:List ByteArray,y_=(l0.drop (x5_1:Int).toNat):=⟨_,rfl⟩
          replace H:(if y136.length+y139.length < 8796093022208 then (some (y136 ++ y139)) else (none))=some r:=by first|(rw [hy139];with_reducible exact H)|(have H2_:=(Option.bind_some _ _).symm.trans H;rw [hy139];with_reducible exact H2_)|(have H2_:=(Option.bind_some _ _).symm.trans H;with_reducible exact H2_)|with_reducible exact H|(rw [hy139];exact H)|exact H
          have Ny139:=Az.mk hy139
          clear hy139
          by_cases c15:y136.length+y139.length < 8796093022208
          ·rw [if_pos c15] at H
           have LMc15:=Az.mk c15
           clear c15
           obtain ⟨y143,hy143⟩:∃ y_:List ByteArray,y_=(y136 ++ y139):=⟨_,rfl⟩
           replace H:(some y143)=some r:=by first|(rw [hy143];with_reducible exact H)|(have H2_:=(Option.bind_some _ _).symm.trans H;rw [hy143];with_reducible exact H2_)|(have H2_:=(Option.bind_some _ _).symm.trans H;with_reducible exact H2_)|with_reducible exact H|(rw [hy143];exact H)|exact H
           have Ny143:=Az.mk hy143
           clear hy143
           obtain rfl:=Option.some.inj H
           obtain ⟨Ao16,co16,eo16⟩:=Kd.R_slice HO_0.out
           subst eo16
           have p127:0≤(x5_1:Int):=of_decide_eq_true (by first|(with_reducible assumption)|assumption)
           have q127:x5_1 < (l0.length:Int):=of_decide_eq_true (by first|(with_reducible assumption)|assumption)
           obtain ⟨ad127,e127,hx127_0⟩:=Kd.at_string (Kd.R_reads' HO_0.out).2.2 x5_1 p127 q127
           cases e127
           replace p127:=eq_true p127
           replace q127:=eq_true q127
           have p128:0≤(x5_1:Int):=of_decide_eq_true (by first|(with_reducible assumption)|assumption)
           have q128:x5_1 < (l0.length:Int):=of_decide_eq_true (by first|(with_reducible assumption)|assumption)
           obtain ⟨ad128,e128,hx128_0⟩:=Kd.at_string (Kd.R_reads' HO_0.out).2.2 x5_1 p128 q128
           obtain rfl:ad127=ad128:=(by injection e128)
           replace p128:=eq_true p128
           replace q128:=eq_true q128
           have q17:(x5_1:Int)≤((l0.length:Int):Int):=of_decide_eq_true (by first|(with_reducible assumption)|assumption)
           obtain ⟨i017,hi017,_,hsz17,_⟩:=info_parts info9
           have hroom17:l0.length≤co16:=(Kd.R_reads' HO_0.out).2.1
           have hC17:Kd.C Kd.string _ (some ad127) l0.length l0:=(Kd.R_reads' HO_0.out).2.2
           have hcut17:=cut_to (P:=Try.prog) 36 9 .i64 Try.underlying36 hi017 (some ad127) l0.length co16 x5_1 (of_decide_eq_true (by first|(with_reducible assumption)|assumption)) q17 hroom17
           have hr17:=Kd.C_take (m:=(x5_1:Int).toNat) hC17 (by omega)
           have hy17:y129.length=(x5_1:Int).toNat:=(by rw [Ny129.out,List.length_take];omega)
           rw [← Ny129.out] at hr17
           rw [← hy17] at hcut17
           have HR132:=Az.mk hr17
           have HC132:=Az.mk (show y129.length≤co16 from by omega)
           clear hr17 hC17 hroom17 hi017 hsz17
           have KY17:=Az.mk hy17
           clear hy17
           have KL17:=Az.mk (show (x5_1:Int).toNat≤l0.length from by omega)
           replace q17:=eq_true q17
           go_wp2_with (first|((with_reducible refine gate_builtin (b:=.append) (xs:=#[.tmp 34,.tmp 37]) rfl ?_);at_builtin;refine Kd.R_append_rows Kd.string (w0:=w0) w0.heap.size rfl (.tmp 34) (.tmp 37) 36 9 (.string ⟨#[]⟩) 16 rfl Try.underlying36 info9 rfl (by decide) (by omega) (.slice none 0 0) ([]:List ByteArray) y129 _ _ _ (fun k_=>(P0_ k_∨w.heap.size≤k_)∧some k_≠(.slice (some ad127) l0.length co16:Value).ownBlock) (fun _=>False) rfl rfl ?aO ?aR (fun _ _ h=>h) (fun _ h=>h.elim) ?aF ?aB ?aS ?aL ?_;(case aR=>repeat (first|exact (by repeat (first|(with_reducible exact HR132.out)|(with_reducible refine cA_ ?_ _)|(with_reducible refine cN_ ?_ _)|(with_reducible refine cD_ ?_)|exact HR132.out))|(with_reducible refine cA_ ?_ _)|(with_reducible refine cN_ ?_ _)|(with_reducible refine cD_ ?_)));(case aB=>exact (by repeat (first|(with_reducible first|exact HB.out|apply bA_|apply bN_|apply bD_)|exact HB.out)));(case aF=>exact (fun k_ hk=>⟨(.inr (Nat.le_trans (by first|exact HK.out.1|exact (show Kept w _ (fun k_=>P0_ k_) from by repeat (first|(with_reducible first|exact HK.out|apply Kept.alloc|apply Kept.drewN|apply Kept.drew)|exact HK.out)).1) hk)),Kd.fresh' (Kd.R_lt (by (with_reducible repeat (first|apply rA_|apply rN_|apply rD_));exact HO_0.out)) k_ hk⟩));(case aO=>exact ((Kd.R_nil _ _ _ _ (fun k_=>(P0_ k_∨w.heap.size≤k_)∧some k_≠(.slice (some ad127) l0.length co16:Value).ownBlock))));(case aS=>exact (be_ (by repeat (first|(with_reducible first|exact HB.out|apply bA_|apply bN_|apply bD_)|exact HB.out))));(case aL=>have:=LMc11.out;omega);intro v134 w18 ho hb hg hat;rw [← Ny133.out] at ho;have n0_:=Az.mk (Kd.R_after (Kd.R_apart_nil (by (with_reducible repeat (first|apply rA_|apply rN_|apply rD_));exact HO_0.out)) hg hat);have n1_:=Az.mk (hb);have n2_:=Az.mk (Kept.of_grown (S:=(fun k_=>P0_ k_)) hg (by repeat (first|(with_reducible first|exact HK.out|apply Kept.alloc|apply Kept.drewN|apply Kept.drew)|exact HK.out)) (fun k_ e_=>by simp [Value.ownBlock] at e_));have n3_:=Az.mk ((show Kd.C Kd.string w18 (some ad127) y129.length y129 from by rw [Ny129.out];exact Kd.C_take (m:=(x5_1:Int).toNat) ((Kd.R_reads' (Kd.R_after (Kd.R_apart_nil (by (with_reducible repeat (first|apply rA_|apply rN_|apply rD_));exact HO_0.out)) hg hat)).2.2) KL17.out));have n4_:=Az.mk (ho);clear HO_0;clear HB;clear HK;clear HR132;have HO_0:=n0_;have HB:=n1_;have HK:=n2_;have HR132:=n3_;have HO135:=n4_;clear n0_ n1_ n2_ n3_ n4_;clear ho hb hg hat)|((with_reducible refine gate_builtin (b:=.append) (xs:=#[.tmp 39,.tmp 41]) rfl ?_);at_builtin;refine Kd.R_append Kd.string (w0:=w0) w0.heap.size rfl (.tmp 39) (.tmp 41) 36 9 (.string ⟨#[]⟩) 16 rfl Try.underlying36 info9 rfl (by decide) (by omega) v134 y133 a1 [.string a1] (fun k_=>(P0_ k_∨w.heap.size≤k_)∧some k_≠(.slice (some ad127) l0.length co16:Value).ownBlock) (fun _=>False) rfl rfl ?aP (fun _ hk=>hk.elim) ?aF ?aO ?aB ?aS ?aL ?_;(case aP=>exact rfl);(case aB=>exact (by repeat (first|(with_reducible first|exact HB.out|apply bA_|apply bN_|apply bD_)|exact HB.out)));(case aF=>exact (fun k_ hk=>⟨(.inr (Nat.le_trans (by first|exact HK.out.1|exact (show Kept w _ (fun k_=>P0_ k_) from by repeat (first|(with_reducible first|exact HK.out|apply Kept.alloc|apply Kept.drewN|apply Kept.drew)|exact HK.out)).1) hk)),Kd.fresh' (Kd.R_lt (by (with_reducible repeat (first|apply rA_|apply rN_|apply rD_));exact HO_0.out)) k_ hk⟩));(case aO=>exact (by (with_reducible repeat (first|apply rA_|apply rN_|apply rD_));exact HO135.out));(case aS=>exact (be_ (by repeat (first|(with_reducible first|exact HB.out|apply bA_|apply bN_|apply bD_)|exact HB.out))));(case aL=>have:=LMc12.out;omega);intro v137 w19 ho hb hg hat;rw [← Ny136.out] at ho;have n0_:=Az.mk (Kd.R_after (ok:=(fun k_=>(P0_ k_∨w.heap.size≤k_))) (by (with_reducible repeat (first|apply rA_|apply rN_|apply rD_));exact HO_0.out) hg hat);have n1_:=Az.mk (hb);have n2_:=Az.mk (Kept.of_grown (S:=(fun k_=>P0_ k_)) hg (by repeat (first|(with_reducible first|exact HK.out|apply Kept.alloc|apply Kept.drewN|apply Kept.drew)|exact HK.out)) (fun k_ e_=>(HO135.out.1 k_ e_).1));have n3_:=Az.mk ((show Kd.C Kd.string w19 (some ad127) y129.length y129 from by rw [Ny129.out];exact Kd.C_take (m:=(x5_1:Int).toNat) ((Kd.R_reads' (Kd.R_after (ok:=(fun k_=>(P0_ k_∨w.heap.size≤k_))) (by (with_reducible repeat (first|apply rA_|apply rN_|apply rD_));exact HO_0.out) hg hat)).2.2) KL17.out));have n4_:=Az.mk (ho);clear HO_0;clear HB;clear HK;clear HR132;clear HO135;have HO_0:=n0_;have HB:=n1_;have HK:=n2_;have HR132:=n3_;have HO138:=n4_;clear n0_ n1_ n2_ n3_ n4_;clear ho hb hg hat;have q20:(x5_1:Int)≤((l0.length:Int):Int):=of_decide_eq_true (by first|(with_reducible assumption)|assumption);obtain ⟨i020,hi020,_,hsz20,_⟩:=info_parts info9;have hroom20:l0.length≤co16:=(Kd.R_reads' HO_0.out).2.1;have hC20:Kd.C Kd.string _ (some ad127) l0.length l0:=(Kd.R_reads' HO_0.out).2.2;have q020:(0:Int)≤(x5_1:Int):=of_decide_eq_true (by first|(with_reducible assumption)|assumption);have hcut20:=cut_from (P:=Try.prog) 36 9 .i64 Try.underlying36 hi020 1 hsz20 (some ad127) l0.length co16 x5_1 q020 q20;have hr20:=Kd.C_drop (m:=(x5_1:Int).toNat) (c:=co16) hC20 (by omega) hroom20;obtain ⟨A20,hA20⟩:∃ A1,A1=(if co16=(x5_1:Int).toNat then (some ad127) else ((some ad127):Option Addr).map (·.add ((x5_1:Int).toNat * 1))):=⟨_,rfl⟩;obtain ⟨c20,hc20⟩:∃ c1,c1=co16 - (x5_1:Int).toNat:=⟨_,rfl⟩;have hy20:y139.length=l0.length - (x5_1:Int).toNat:=(by rw [Ny139.out,List.length_drop] <;> omega);rw [show (l0).drop (x5_1:Int).toNat=y139 from Ny139.out.symm] at hr20;replace hr20:Kd.C Kd.string _ A20 y139.length y139:=(by rw [hA20];exact hr20);rw [← hy20,← hA20,← hc20] at hcut20;have HR142:=Az.mk hr20;have HC142:=Az.mk (show y139.length≤c20 from by rw [hy20,hc20];exact Nat.sub_le_sub_right hroom20 _);clear hr20 hC20 hroom20 hi020 hsz20 hc20;have KY20:=Az.mk hy20;have KA20:=Az.mk hA20;clear hy20 hA20;have KL20:=Az.mk (show (x5_1:Int).toNat≤l0.length from by omega);replace q20:=eq_true q20)|((with_reducible refine gate_builtin (b:=.append) (xs:=#[.tmp 43,.tmp 46]) rfl ?_);at_builtin;refine Kd.R_append_rows Kd.string (w0:=w0) w0.heap.size rfl (.tmp 43) (.tmp 46) 36 9 (.string ⟨#[]⟩) 16 rfl Try.underlying36 info9 rfl (by decide) (by omega) v137 y136 y139 _ _ _ (fun k_=>(P0_ k_∨w.heap.size≤k_)∧some k_≠(.slice (some ad127) l0.length co16:Value).ownBlock) (fun _=>False) rfl rfl ?aO ?aR (fun _ _ h=>h) (fun _ h=>h.elim) ?aF ?aB ?aS ?aL ?_;(case aR=>repeat (first|exact (by repeat (first|(with_reducible exact HR142.out)|(with_reducible refine cA_ ?_ _)|(with_reducible refine cN_ ?_ _)|(with_reducible refine cD_ ?_)|exact HR142.out))|(with_reducible refine cA_ ?_ _)|(with_reducible refine cN_ ?_ _)|(with_reducible refine cD_ ?_)));(case aB=>exact (by repeat (first|(with_reducible first|exact HB.out|apply bA_|apply bN_|apply bD_)|exact HB.out)));(case aF=>exact (fun k_ hk=>⟨(.inr (Nat.le_trans (by first|exact HK.out.1|exact (show Kept w _ (fun k_=>P0_ k_) from by repeat (first|(with_reducible first|exact HK.out|apply Kept.alloc|apply Kept.drewN|apply Kept.drew)|exact HK.out)).1) hk)),Kd.fresh' (Kd.R_lt (by (with_reducible repeat (first|apply rA_|apply rN_|apply rD_));exact HO_0.out)) k_ hk⟩));(case aO=>exact (by (with_reducible repeat (first|apply rA_|apply rN_|apply rD_));exact HO138.out));(case aS=>exact (be_ (by repeat (first|(with_reducible first|exact HB.out|apply bA_|apply bN_|apply bD_)|exact HB.out))));(case aL=>have:=LMc15.out;omega);intro v144 w21 ho hb hg hat;rw [← Ny143.out] at ho;have n0_:=Az.mk (Kd.R_after (ok:=(fun k_=>(P0_ k_∨w.heap.size≤k_))) (by (with_reducible repeat (first|apply rA_|apply rN_|apply rD_));exact HO_0.out) hg hat);have n1_:=Az.mk (hb);have n2_:=Az.mk (Kept.of_grown (S:=(fun k_=>P0_ k_)) hg (by repeat (first|(with_reducible first|exact HK.out|apply Kept.alloc|apply Kept.drewN|apply Kept.drew)|exact HK.out)) (fun k_ e_=>(HO138.out.1 k_ e_).1));have n3_:=Az.mk ((show Kd.C Kd.string w21 (some ad127) y129.length y129 from by rw [Ny129.out];exact Kd.C_take (m:=(x5_1:Int).toNat) ((Kd.R_reads' (Kd.R_after (ok:=(fun k_=>(P0_ k_∨w.heap.size≤k_))) (by (with_reducible repeat (first|apply rA_|apply rN_|apply rD_));exact HO_0.out) hg hat)).2.2) KL17.out));have n4_:=Az.mk ((show Kd.C Kd.string w21 A20 y139.length y139 from by rw [Ny139.out,KA20.out];exact Kd.C_drop (m:=(x5_1:Int).toNat) (c:=co16) ((Kd.R_reads' (Kd.R_after (ok:=(fun k_=>(P0_ k_∨w.heap.size≤k_))) (by (with_reducible repeat (first|apply rA_|apply rN_|apply rD_));exact HO_0.out) hg hat)).2.2) KL20.out ((Kd.R_reads' (Kd.R_after (ok:=(fun k_=>(P0_ k_∨w.heap.size≤k_))) (by (with_reducible repeat (first|apply rA_|apply rN_|apply rD_));exact HO_0.out) hg hat)).2.1)));have n5_:=Az.mk (ho);clear HO_0;clear HB;clear HK;clear HR132;clear HR142;clear HO138;have HO_0:=n0_;have HB:=n1_;have HK:=n2_;have HR132:=n3_;have HR142:=n4_;have HO145:=n5_;clear n0_ n1_ n2_ n3_ n4_ n5_;clear ho hb hg hat))
           go_ret
           exact ⟨_,by first|rfl|(simp [errW_none,errW_some] <;> rfl)|(simp [*,errW_none,errW_some] <;> rfl),by (with_reducible repeat (first|apply rA_|apply rN_|apply rD_));exact Kd.R_mono HO145.out (fun _ hk=>hk.1),by repeat (first|(with_reducible first|exact HB.out|apply bA_|apply bN_|apply bD_)|exact HB.out),by repeat (first|(with_reducible first|exact HK.out|apply Kept.alloc|apply Kept.drewN|apply Kept.drew)|exact HK.out)⟩
          ·rw [if_neg c15] at H
           exact absurd H (by simp)
         ·rw [if_neg c12] at H
          exact absurd H (by simp)
        ·rw [if_neg c11] at H
         exact absurd H (by simp)
       ·rw [if_neg c10] at H
        exact absurd H (by simp)
    ·rw [if_neg c4] at H
     exact absurd H (by simp)
   ·rw [if_neg c3] at H
    have c3b0:decide (x5_1 < (l0.length:Int))=false:=decide_eq_false c3
    clear c3
    by_cases c22:0≤x5_1
    ·rw [if_pos c22] at H
     have c22b0:=eq_true c22
     have c22b1:decide (0≤x5_1)=true:=decide_eq_true c22
     clear c22
     by_cases c23:x5_1≤(l0.length:Int)
     ·rw [if_pos c23] at H
      have c23b0:=eq_true c23
      have c23b1:decide (x5_1≤(l0.length:Int))=true:=decide_eq_true c23
      clear c23
      obtain ⟨y146,hy146⟩:∃ y_:List ByteArray,y_=(l0.take (x5_1:Int).toNat):=⟨_,rfl⟩
      replace H:(if ([]:List ByteArray).length+y146.length < 8796093022208 then ((some (([]:List ByteArray) ++ y146:List ByteArray)).bind fun y150=>(if y150.length < 8796093022208 then ((some (y150 ++ [a1]:List ByteArray)).bind fun y153=>((some (l0.drop (x5_1:Int).toNat:List ByteArray)).bind fun y156=>(if y153.length+y156.length < 8796093022208 then (some (y153 ++ y156)) else (none)))) else (none))) else (none))=some r:=by first|(rw [hy146];with_reducible exact H)|(have H2_:=(Option.bind_some _ _).symm.trans H;rw [hy146];with_reducible exact H2_)|(have H2_:=(Option.bind_some _ _).symm.trans H;with_reducible exact H2_)|with_reducible exact H|(rw [hy146];exact H)|exact H
      have Ny146:=Az.mk hy146
      clear hy146
      by_cases c24:([]:List ByteArray).length+y146.length < 8796093022208
      ·rw [if_pos c24] at H
       have LMc24:=Az.mk c24
       clear c24
       obtain ⟨y150,hy150⟩:∃ y_:List ByteArray,y_=(([]:List ByteArray) ++ y146):=⟨_,rfl⟩
       replace H:(if y150.length < 8796093022208 then ((some (y150 ++ [a1]:List ByteArray)).bind fun y153=>((some (l0.drop (x5_1:Int).toNat:List ByteArray)).bind fun y156=>(if y153.length+y156.length < 8796093022208 then (some (y153 ++ y156)) else (none)))) else (none))=some r:=by first|(rw [hy150];with_reducible exact H)|(have H2_:=(Option.bind_some _ _).symm.trans H;rw [hy150];with_reducible exact H2_)|(have H2_:=(Option.bind_some _ _).symm.trans H;with_reducible exact H2_)|with_reducible exact H|(rw [hy150];exact H)|exact H
       have Ny150:=Az.mk hy150
       clear hy150
       by_cases c25:y150.length < 8796093022208
       ·rw [if_pos c25] at H
        have LMc25:=Az.mk c25
        clear c25
        obtain ⟨y153,hy153⟩:∃ y_:List ByteArray,y_=(y150 ++ [a1]):=⟨_,rfl⟩
        replace H:((some (l0.drop (x5_1:Int).toNat:List ByteArray)).bind fun y156=>(if y153.length+y156.length < 8796093022208 then (some (y153 ++ y156)) else (none)))=some r:=by first|(rw [hy153];with_reducible exact H)|(have H2_:=(Option.bind_some _ _).symm.trans H;rw [hy153];with_reducible exact H2_)|(have H2_:=(Option.bind_some _ _).symm.trans H;with_reducible exact H2_)|with_reducible exact H|(rw [hy153];exact H)|exact H
        have Ny153:=Az.mk hy153
        clear hy153
        have c26b0:=eq_true (of_decide_eq_true (by first|(with_reducible assumption)|assumption):0≤x5_1)
        have c27b0:=eq_true (of_decide_eq_true (by first|(with_reducible assumption)|assumption):x5_1≤(l0.length:Int))
        obtain ⟨y156,hy156⟩:∃ y_:List ByteArray,y_=(l0.drop (x5_1:Int).toNat):=⟨_,rfl⟩
        replace H:(if y153.length+y156.length < 8796093022208 then (some (y153 ++ y156)) else (none))=some r:=by first|(rw [hy156];with_reducible exact H)|(have H2_:=(Option.bind_some _ _).symm.trans H;rw [hy156];with_reducible exact H2_)|(have H2_:=(Option.bind_some _ _).symm.trans H;with_reducible exact H2_)|with_reducible exact H|(rw [hy156];exact H)|exact H
        have Ny156:=Az.mk hy156
        clear hy156
        by_cases c28:y153.length+y156.length < 8796093022208
        ·rw [if_pos c28] at H
         have LMc28:=Az.mk c28
         clear c28
         obtain ⟨y160,hy160⟩:∃ y_:List ByteArray,y_=(y153 ++ y156):=⟨_,rfl⟩
         replace H:(some y160)=some r:=by first|(rw [hy160];with_reducible exact H)|(have H2_:=(Option.bind_some _ _).symm.trans H;rw [hy160];with_reducible exact H2_)|(have H2_:=(Option.bind_some _ _).symm.trans H;with_reducible exact H2_)|with_reducible exact H|(rw [hy160];exact H)|exact H
         have Ny160:=Az.mk hy160
         clear hy160
         obtain rfl:=Option.some.inj H
         obtain ⟨Ao29,co29,eo29⟩:=Kd.R_slice HO_0.out
         subst eo29
         have q30:(x5_1:Int)≤((l0.length:Int):Int):=of_decide_eq_true (by first|(with_reducible assumption)|assumption)
         obtain ⟨i030,hi030,_,hsz30,_⟩:=info_parts info9
         have hroom30:l0.length≤co29:=(Kd.R_reads' HO_0.out).2.1
         have hC30:Kd.C Kd.string _ Ao29 l0.length l0:=(Kd.R_reads' HO_0.out).2.2
         have hcut30:=cut_to (P:=Try.prog) 36 9 .i64 Try.underlying36 hi030 Ao29 l0.length co29 x5_1 (of_decide_eq_true (by first|(with_reducible assumption)|assumption)) q30 hroom30
         have hr30:=Kd.C_take (m:=(x5_1:Int).toNat) hC30 (by omega)
         have hy30:y146.length=(x5_1:Int).toNat:=(by rw [Ny146.out,List.length_take];omega)
         rw [← Ny146.out] at hr30
         rw [← hy30] at hcut30
         have HR149:=Az.mk hr30
         have HC149:=Az.mk (show y146.length≤co29 from by omega)
         clear hr30 hC30 hroom30 hi030 hsz30
         have KY30:=Az.mk hy30
         clear hy30
         have KL30:=Az.mk (show (x5_1:Int).toNat≤l0.length from by omega)
         replace q30:=eq_true q30
         go_wp2_with (first|((with_reducible refine gate_builtin (b:=.append) (xs:=#[.tmp 34,.tmp 37]) rfl ?_);at_builtin;refine Kd.R_append_rows Kd.string (w0:=w0) w0.heap.size rfl (.tmp 34) (.tmp 37) 36 9 (.string ⟨#[]⟩) 16 rfl Try.underlying36 info9 rfl (by decide) (by omega) (.slice none 0 0) ([]:List ByteArray) y146 _ _ _ (fun k_=>(P0_ k_∨w.heap.size≤k_)∧some k_≠(.slice Ao29 l0.length co29:Value).ownBlock) (fun _=>False) rfl rfl ?aO ?aR (fun _ _ h=>h) (fun _ h=>h.elim) ?aF ?aB ?aS ?aL ?_;(case aR=>repeat (first|exact (by repeat (first|(with_reducible exact HR149.out)|(with_reducible refine cA_ ?_ _)|(with_reducible refine cN_ ?_ _)|(with_reducible refine cD_ ?_)|exact HR149.out))|(with_reducible refine cA_ ?_ _)|(with_reducible refine cN_ ?_ _)|(with_reducible refine cD_ ?_)));(case aB=>exact (by repeat (first|(with_reducible first|exact HB.out|apply bA_|apply bN_|apply bD_)|exact HB.out)));(case aF=>exact (fun k_ hk=>⟨(.inr (Nat.le_trans (by first|exact HK.out.1|exact (show Kept w _ (fun k_=>P0_ k_) from by repeat (first|(with_reducible first|exact HK.out|apply Kept.alloc|apply Kept.drewN|apply Kept.drew)|exact HK.out)).1) hk)),Kd.fresh' (Kd.R_lt (by (with_reducible repeat (first|apply rA_|apply rN_|apply rD_));exact HO_0.out)) k_ hk⟩));(case aO=>exact ((Kd.R_nil _ _ _ _ (fun k_=>(P0_ k_∨w.heap.size≤k_)∧some k_≠(.slice Ao29 l0.length co29:Value).ownBlock))));(case aS=>exact (be_ (by repeat (first|(with_reducible first|exact HB.out|apply bA_|apply bN_|apply bD_)|exact HB.out))));(case aL=>have:=LMc24.out;omega);intro v151 w31 ho hb hg hat;rw [← Ny150.out] at ho;have n0_:=Az.mk (Kd.R_after (Kd.R_apart_nil (by (with_reducible repeat (first|apply rA_|apply rN_|apply rD_));exact HO_0.out)) hg hat);have n1_:=Az.mk (hb);have n2_:=Az.mk (Kept.of_grown (S:=(fun k_=>P0_ k_)) hg (by repeat (first|(with_reducible first|exact HK.out|apply Kept.alloc|apply Kept.drewN|apply Kept.drew)|exact HK.out)) (fun k_ e_=>by simp [Value.ownBlock] at e_));have n3_:=Az.mk ((show Kd.C Kd.string w31 Ao29 y146.length y146 from by rw [Ny146.out];exact Kd.C_take (m:=(x5_1:Int).toNat) ((Kd.R_reads' (Kd.R_after (Kd.R_apart_nil (by (with_reducible repeat (first|apply rA_|apply rN_|apply rD_));exact HO_0.out)) hg hat)).2.2) KL30.out));have n4_:=Az.mk (ho);clear HO_0;clear HB;clear HK;clear HR149;have HO_0:=n0_;have HB:=n1_;have HK:=n2_;have HR149:=n3_;have HO152:=n4_;clear n0_ n1_ n2_ n3_ n4_;clear ho hb hg hat)|((with_reducible refine gate_builtin (b:=.append) (xs:=#[.tmp 39,.tmp 41]) rfl ?_);at_builtin;refine Kd.R_append Kd.string (w0:=w0) w0.heap.size rfl (.tmp 39) (.tmp 41) 36 9 (.string ⟨#[]⟩) 16 rfl Try.underlying36 info9 rfl (by decide) (by omega) v151 y150 a1 [.string a1] (fun k_=>(P0_ k_∨w.heap.size≤k_)∧some k_≠(.slice Ao29 l0.length co29:Value).ownBlock) (fun _=>False) rfl rfl ?aP (fun _ hk=>hk.elim) ?aF ?aO ?aB ?aS ?aL ?_;(case aP=>exact rfl);(case aB=>exact (by repeat (first|(with_reducible first|exact HB.out|apply bA_|apply bN_|apply bD_)|exact HB.out)));(case aF=>exact (fun k_ hk=>⟨(.inr (Nat.le_trans (by first|exact HK.out.1|exact (show Kept w _ (fun k_=>P0_ k_) from by repeat (first|(with_reducible first|exact HK.out|apply Kept.alloc|apply Kept.drewN|apply Kept.drew)|exact HK.out)).1) hk)),Kd.fresh' (Kd.R_lt (by (with_reducible repeat (first|apply rA_|apply rN_|apply rD_));exact HO_0.out)) k_ hk⟩));(case aO=>exact (by (with_reducible repeat (first|apply rA_|apply rN_|apply rD_));exact HO152.out));(case aS=>exact (be_ (by repeat (first|(with_reducible first|exact HB.out|apply bA_|apply bN_|apply bD_)|exact HB.out))));(case aL=>have:=LMc25.out;omega);intro v154 w32 ho hb hg hat;rw [← Ny153.out] at ho;have n0_:=Az.mk (Kd.R_after (ok:=(fun k_=>(P0_ k_∨w.heap.size≤k_))) (by (with_reducible repeat (first|apply rA_|apply rN_|apply rD_));exact HO_0.out) hg hat);have n1_:=Az.mk (hb);have n2_:=Az.mk (Kept.of_grown (S:=(fun k_=>P0_ k_)) hg (by repeat (first|(with_reducible first|exact HK.out|apply Kept.alloc|apply Kept.drewN|apply Kept.drew)|exact HK.out)) (fun k_ e_=>(HO152.out.1 k_ e_).1));have n3_:=Az.mk ((show Kd.C Kd.string w32 Ao29 y146.length y146 from by rw [Ny146.out];exact Kd.C_take (m:=(x5_1:Int).toNat) ((Kd.R_reads' (Kd.R_after (ok:=(fun k_=>(P0_ k_∨w.heap.size≤k_))) (by (with_reducible repeat (first|apply rA_|apply rN_|apply rD_));exact HO_0.out) hg hat)).2.2) KL30.out));have n4_:=Az.mk (ho);clear HO_0;clear HB;clear HK;clear HR149;clear HO152;have HO_0:=n0_;have HB:=n1_;have HK:=n2_;have HR149:=n3_;have HO155:=n4_;clear n0_ n1_ n2_ n3_ n4_;clear ho hb hg hat;have q33:(x5_1:Int)≤((l0.length:Int):Int):=of_decide_eq_true (by first|(with_reducible assumption)|assumption);obtain ⟨i033,hi033,_,hsz33,_⟩:=info_parts info9;have hroom33:l0.length≤co29:=(Kd.R_reads' HO_0.out).2.1;have hC33:Kd.C Kd.string _ Ao29 l0.length l0:=(Kd.R_reads' HO_0.out).2.2;have q033:(0:Int)≤(x5_1:Int):=of_decide_eq_true (by first|(with_reducible assumption)|assumption);have hcut33:=cut_from (P:=Try.prog) 36 9 .i64 Try.underlying36 hi033 1 hsz33 Ao29 l0.length co29 x5_1 q033 q33;have hr33:=Kd.C_drop (m:=(x5_1:Int).toNat) (c:=co29) hC33 (by omega) hroom33;obtain ⟨A33,hA33⟩:∃ A1,A1=(if co29=(x5_1:Int).toNat then Ao29 else (Ao29:Option Addr).map (·.add ((x5_1:Int).toNat * 1))):=⟨_,rfl⟩;obtain ⟨c33,hc33⟩:∃ c1,c1=co29 - (x5_1:Int).toNat:=⟨_,rfl⟩;have hy33:y156.length=l0.length - (x5_1:Int).toNat:=(by rw [Ny156.out,List.length_drop] <;> omega);rw [show (l0).drop (x5_1:Int).toNat=y156 from Ny156.out.symm] at hr33;replace hr33:Kd.C Kd.string _ A33 y156.length y156:=(by rw [hA33];exact hr33);rw [← hy33,← hA33,← hc33] at hcut33;have HR159:=Az.mk hr33;have HC159:=Az.mk (show y156.length≤c33 from by rw [hy33,hc33];exact Nat.sub_le_sub_right hroom33 _);clear hr33 hC33 hroom33 hi033 hsz33 hc33;have KY33:=Az.mk hy33;have KA33:=Az.mk hA33;clear hy33 hA33;have KL33:=Az.mk (show (x5_1:Int).toNat≤l0.length from by omega);replace q33:=eq_true q33)|((with_reducible refine gate_builtin (b:=.append) (xs:=#[.tmp 43,.tmp 46]) rfl ?_);at_builtin;refine Kd.R_append_rows Kd.string (w0:=w0) w0.heap.size rfl (.tmp 43) (.tmp 46) 36 9 (.string ⟨#[]⟩) 16 rfl Try.underlying36 info9 rfl (by decide) (by omega) v154 y153 y156 _ _ _ (fun k_=>(P0_ k_∨w.heap.size≤k_)∧some k_≠(.slice Ao29 l0.length co29:Value).ownBlock) (fun _=>False) rfl rfl ?aO ?aR (fun _ _ h=>h) (fun _ h=>h.elim) ?aF ?aB ?aS ?aL ?_;(case aR=>repeat (first|exact (by repeat (first|(with_reducible exact HR159.out)|(with_reducible refine cA_ ?_ _)|(with_reducible refine cN_ ?_ _)|(with_reducible refine cD_ ?_)|exact HR159.out))|(with_reducible refine cA_ ?_ _)|(with_reducible refine cN_ ?_ _)|(with_reducible refine cD_ ?_)));(case aB=>exact (by repeat (first|(with_reducible first|exact HB.out|apply bA_|apply bN_|apply bD_)|exact HB.out)));(case aF=>exact (fun k_ hk=>⟨(.inr (Nat.le_trans (by first|exact HK.out.1|exact (show Kept w _ (fun k_=>P0_ k_) from by repeat (first|(with_reducible first|exact HK.out|apply Kept.alloc|apply Kept.drewN|apply Kept.drew)|exact HK.out)).1) hk)),Kd.fresh' (Kd.R_lt (by (with_reducible repeat (first|apply rA_|apply rN_|apply rD_));exact HO_0.out)) k_ hk⟩));(case aO=>exact (by (with_reducible repeat (first|apply rA_|apply rN_|apply rD_));exact HO155.out));(case aS=>exact (be_ (by repeat (first|(with_reducible first|exact HB.out|apply bA_|apply bN_|apply bD_)|exact HB.out))));(case aL=>have:=LMc28.out;omega);intro v161 w34 ho hb hg hat;rw [← Ny160.out] at ho;have n0_:=Az.mk (Kd.R_after (ok:=(fun k_=>(P0_ k_∨w.heap.size≤k_))) (by (with_reducible repeat (first|apply rA_|apply rN_|apply rD_));exact HO_0.out) hg hat);have n1_:=Az.mk (hb);have n2_:=Az.mk (Kept.of_grown (S:=(fun k_=>P0_ k_)) hg (by repeat (first|(with_reducible first|exact HK.out|apply Kept.alloc|apply Kept.drewN|apply Kept.drew)|exact HK.out)) (fun k_ e_=>(HO155.out.1 k_ e_).1));have n3_:=Az.mk ((show Kd.C Kd.string w34 Ao29 y146.length y146 from by rw [Ny146.out];exact Kd.C_take (m:=(x5_1:Int).toNat) ((Kd.R_reads' (Kd.R_after (ok:=(fun k_=>(P0_ k_∨w.heap.size≤k_))) (by (with_reducible repeat (first|apply rA_|apply rN_|apply rD_));exact HO_0.out) hg hat)).2.2) KL30.out));have n4_:=Az.mk ((show Kd.C Kd.string w34 A33 y156.length y156 from by rw [Ny156.out,KA33.out];exact Kd.C_drop (m:=(x5_1:Int).toNat) (c:=co29) ((Kd.R_reads' (Kd.R_after (ok:=(fun k_=>(P0_ k_∨w.heap.size≤k_))) (by (with_reducible repeat (first|apply rA_|apply rN_|apply rD_));exact HO_0.out) hg hat)).2.2) KL33.out ((Kd.R_reads' (Kd.R_after (ok:=(fun k_=>(P0_ k_∨w.heap.size≤k_))) (by (with_reducible repeat (first|apply rA_|apply rN_|apply rD_));exact HO_0.out) hg hat)).2.1)));have n5_:=Az.mk (ho);clear HO_0;clear HB;clear HK;clear HR149;clear HR159;clear HO155;have HO_0:=n0_;have HB:=n1_;have HK:=n2_;have HR149:=n3_;have HR159:=n4_;have HO162:=n5_;clear n0_ n1_ n2_ n3_ n4_ n5_;clear ho hb hg hat))
         go_ret
         exact ⟨_,by first|rfl|(simp [errW_none,errW_some] <;> rfl)|(simp [*,errW_none,errW_some] <;> rfl),by (with_reducible repeat (first|apply rA_|apply rN_|apply rD_));exact Kd.R_mono HO162.out (fun _ hk=>hk.1),by repeat (first|(with_reducible first|exact HB.out|apply bA_|apply bN_|apply bD_)|exact HB.out),by repeat (first|(with_reducible first|exact HK.out|apply Kept.alloc|apply Kept.drewN|apply Kept.drew)|exact HK.out)⟩
        ·rw [if_neg c28] at H
         exact absurd H (by simp)
       ·rw [if_neg c25] at H
        exact absurd H (by simp)
      ·rw [if_neg c24] at H
       exact absurd H (by simp)
     ·rw [if_neg c23] at H
      exact absurd H (by simp)
    ·rw [if_neg c22] at H
     exact absurd H (by simp)
end Go.Proofs.Ytoihiehoolehiaa.PX
namespace Go.Proofs.Ytoihiehoolehiaa.PX
open Go.RowKit Go.Proofs.YtoihiehoolehiaaW.PrintWords Go.Proofs.YtoihiehoolehiaaW.PrintLast Go.Proofs.YtoihiehoolehiaaW.PrintMore
attribute [local go_sem] max2_int min2_int max_two min_two max_three min_three max_four min_four   
set_option linter.unusedVariables false
set_option linter.unusedSimpArgs false
attribute [local go_sem] run_field_87_0
def cadenceref3_in.l0:Nat→List ByteArray→ByteArray→Int→Option (Bool)
 | 0,_,_,_=>none
 | k+1,x0,x1,x5=>if x5 < (x0.length:Int) then (if 0≤x5 then (if (rdOf ByteArray.empty x0 x5).toList=x1.toList then (some true) else (cadenceref3_in.l0 k x0 x1 (wrap64 (x5+1)))) else (none)) else (some false)
def cadenceref3_in.f (k:Nat) (l0:List ByteArray) (a1:ByteArray):Option (Bool):=cadenceref3_in.l0 k l0 a1 0
theorem cadenceref3_in.mono_l:∀ k,(∀ y0 y1 y2,LeO (cadenceref3_in.l0 k y0 y1 y2) (cadenceref3_in.l0 (k+1) y0 y1 y2))
 | 0=>fun _ _ _ r h=>by simp [cadenceref3_in.l0] at h
 | k+1=>by
  have ih0:=cadenceref3_in.mono_l k
  ·intro y0 y1 y2
   unfold cadenceref3_in.l0
   repeat' first
   | (with_reducible exact ih0 _ _ _)
   | (with_reducible exact LeO.refl _)
   | (with_reducible exact LeO.none _)
   | (with_reducible refine LeO.ite ?_ ?_)
   | (with_reducible refine LeO.bind ?_ (fun _=>?_))
   | exact ih0 _ _ _
   | exact LeO.none _
   | refine LeO.ite ?_ ?_
   | refine LeO.bind ?_ (fun _=>?_)
theorem cadenceref3_in.mono:∀ a0 a1 k,LeO (cadenceref3_in.f k a0 a1) (cadenceref3_in.f (k+1) a0 a1):=by
 intro a0 a1 k
 have ih0:=cadenceref3_in.mono_l k
 unfold cadenceref3_in.f
 repeat' first
   | (with_reducible exact ih0 _ _ _)
   | (with_reducible exact LeO.refl _)
   | (with_reducible exact LeO.none _)
   | (with_reducible refine LeO.ite ?_ ?_)
   | (with_reducible refine LeO.bind ?_ (fun _=>?_))
   | exact ih0 _ _ _
   | exact LeO.none _
   | refine LeO.ite ?_ ?_
   | refine LeO.bind ?_ (fun _=>?_)
set_option maxHeartbeats 8000000 in
set_option maxRecDepth 100000 in
theorem cadenceref3_in.calls (k:Nat) (A0:Option Addr) (c0:Nat) (l0:List ByteArray) (a1:ByteArray) (r:Bool) (w:World) (hr0:Kd.C Kd.string w A0 l0.length l0) (hc0:l0.length≤c0) (h:cadenceref3_in.f k l0 a1=some r) :
  Calls Try.prog 60 #[.slice A0 l0.length c0,.string a1] w fun e w'=>e=.returned (.bool r)∧Drawn0 w w':=by
 have HR0:=Az.mk hr0
 have HC0:=Az.mk hc0
 clear hr0 hc0
 have H:(cadenceref3_in.l0 k l0 a1 0)=some r:=h
 clear h
 have H':=Az.mk H
 clear H
 go_enter Try.func60,Try.ntmps60
 go_wp2
 go_loopg [5] k (fun kq v5 w'=>∃ (x5_1:Int),v5=.int .i64 x5_1∧Az (cadenceref3_in.l0 kq l0 a1 x5_1=some r)∧Az (kq≤k)∧Drawn0 w w')
 case atStart=>exact ⟨(0),(by first|rfl|(simp;done)|(simp [*];done)),H',⟨Nat.le_refl _⟩,by repeat (first|exact Drawn0.refl _|apply Drawn0.step)⟩
 case round =>
  clear H'
  try clear p2
  obtain ⟨x5_1,rfl,HA,HK1,⟨m1,rfl⟩⟩:=hrel
  cases gk with
  | zero=>exact absurd HA.out (by simp [cadenceref3_in.l0])
  | succ k1 =>
   have H:=HA.out
   clear HA
   simp only [cadenceref3_in.l0] at H
   by_cases c3:x5_1 < (l0.length:Int)
   ·rw [if_pos c3] at H
    have c3b0:decide (x5_1 < (l0.length:Int))=true:=decide_eq_true c3
    clear c3
    by_cases c4:0≤x5_1
    ·rw [if_pos c4] at H
     have c4b0:decide (0≤x5_1)=true:=decide_eq_true c4
     clear c4
     by_cases c5:(rdOf ByteArray.empty l0 x5_1).toList=a1.toList
     ·rw [if_pos c5] at H
      have c5b0:((rdOf ByteArray.empty l0 x5_1).toList == a1.toList)=true:=beq_iff_eq.mpr c5
      have c5b1:((rdOf ByteArray.empty l0 x5_1).toList != a1.toList)=false:=bne_eq_false_iff_eq.mpr c5
      clear c5
      obtain rfl:=Option.some.inj H
      have p124:0≤(x5_1:Int):=of_decide_eq_true (by first|(with_reducible assumption)|assumption)
      have q124:x5_1 < (l0.length:Int):=of_decide_eq_true (by first|(with_reducible assumption)|assumption)
      obtain ⟨ad124,e124,hx124_0⟩:=Kd.at_string HR0.out x5_1 p124 q124
      cases e124
      replace p124:=eq_true p124
      replace q124:=eq_true q124
      go_wp2
      go_ret
      exact ⟨by first|rfl|(simp;done)|(simp [*];done),by repeat (first|exact Drawn0.refl _|apply Drawn0.step)⟩
     ·rw [if_neg c5] at H
      have c5b0:((rdOf ByteArray.empty l0 x5_1).toList == a1.toList)=false:=beq_eq_false_iff_ne.mpr c5
      have c5b1:((rdOf ByteArray.empty l0 x5_1).toList != a1.toList)=true:=bne_iff_ne.mpr c5
      have H':=Az.mk H
      clear H
      have p124:0≤(x5_1:Int):=of_decide_eq_true (by first|(with_reducible assumption)|assumption)
      have q124:x5_1 < (l0.length:Int):=of_decide_eq_true (by first|(with_reducible assumption)|assumption)
      obtain ⟨ad124,e124,hx124_0⟩:=Kd.at_string HR0.out x5_1 p124 q124
      cases e124
      replace p124:=eq_true p124
      replace q124:=eq_true q124
      go_wp2
      go_roundg k1
      case measure=>have:=HK1.out;omega
      case rel=>exact ⟨(wrap64 (x5_1+1)),(by first|rfl|(simp;done)|(simp [*];done)),H',⟨by have:=HK1.out;omega⟩,by repeat (first|exact Drawn0.refl _|apply Drawn0.step)⟩
    ·rw [if_neg c4] at H
     exact absurd H (by simp)
   ·rw [if_neg c3] at H
    have c3b0:decide (x5_1 < (l0.length:Int))=false:=decide_eq_false c3
    clear c3
    obtain rfl:=Option.some.inj H
    go_wp2
    go_ret
    exact ⟨by first|rfl|(simp;done)|(simp [*];done),by repeat (first|exact Drawn0.refl _|apply Drawn0.step)⟩
end Go.Proofs.Ytoihiehoolehiaa.PX
namespace Go.Proofs.Ytoihiehoolehiaa.PX
open Go.RowKit Go.Proofs.YtoihiehoolehiaaW.PrintWords Go.Proofs.YtoihiehoolehiaaW.PrintLast Go.Proofs.YtoihiehoolehiaaW.PrintMore
attribute [local go_sem] max2_int min2_int max_two min_two max_three min_three max_four min_four   
set_option linter.unusedVariables false
set_option linter.unusedSimpArgs false
attribute [local go_sem] run_field_87_0
def cadenceref3_Has.f (k:Nat) (a0_0:Bool) (l0_1:List ByteArray) (a1:ByteArray):Option (Bool):=(cadenceref3_in.f k l0_1 a1).bind fun t126=>(some (t126 != a0_0))
theorem cadenceref3_Has.mono:∀ a0 a1 a2 k,LeO (cadenceref3_Has.f k a0 a1 a2) (cadenceref3_Has.f (k+1) a0 a1 a2):=by
 intro a0 a1 a2 k
 unfold cadenceref3_Has.f
 repeat' first
   | (with_reducible exact cadenceref3_in.mono _ _ _)
   | (with_reducible exact LeO.refl _)
   | (with_reducible exact LeO.none _)
   | (with_reducible refine LeO.ite ?_ ?_)
   | (with_reducible refine LeO.bind ?_ (fun _=>?_))
   | exact cadenceref3_in.mono _ _ _
   | exact LeO.none _
   | refine LeO.ite ?_ ?_
   | refine LeO.bind ?_ (fun _=>?_)
set_option maxHeartbeats 8000000 in
set_option maxRecDepth 100000 in
theorem cadenceref3_Has.calls (k:Nat) (a0_0:Bool) (A0_1:Option Addr) (c0_1:Nat) (l0_1:List ByteArray) (a1:ByteArray) (r:Bool) (w:World) (hr0_1:Kd.C Kd.string w A0_1 l0_1.length l0_1) (hc0_1:l0_1.length≤c0_1) (h:cadenceref3_Has.f k a0_0 l0_1 a1=some r) :
  Calls Try.prog 42 #[.agg #[.bool a0_0,.slice A0_1 l0_1.length c0_1],.string a1] w fun e w'=>e=.returned (.bool r)∧Below w.heap.size w w':=by
 have hu38:=Try.underlying38
 have HR0_1:=Az.mk hr0_1
 have HC0_1:=Az.mk hc0_1
 clear hr0_1 hc0_1
 have HB:=Az.mk (Below.refl w.heap.size w)
 have H:((cadenceref3_in.f k l0_1 a1).bind fun t126=>(some (t126 != a0_0)))=some r:=h
 clear h
 replace H:=Option.bind_eq_some_iff.mp H
 obtain ⟨t126,A30,H⟩:=H
 replace H:(some (t126 != a0_0))=some r:=H
 have A3:=Az.mk A30
 clear A30
 obtain rfl:=Option.some.inj H
 go_enter Try.func42,Try.ntmps42
 go_wp2_with (first|((with_reducible refine gate_dst (N:=2) rfl ?_);refine box_event ?hg (N:=2) ?hd (cs:=#[.bool a0_0,.slice A0_1 l0_1.length c0_1]) (t:=38) ?hr ?_;(case hd=>rfl);(case hg=>rfl);(case hr=>first|(go_simp;done)|(go_simp;rfl));intro gb125 hg w4 hbox hb;have n0_:=Az.mk (below_step (by repeat (first|(with_reducible first|exact HB.out|apply bA_|apply bN_|apply bD_)|exact HB.out)) hb);have n1_:=Az.mk (hbox);have n2_:=Az.mk ((by rw [hg];exact (be_ (by repeat (first|(with_reducible first|exact HB.out|apply bA_|apply bN_|apply bD_)|exact HB.out))):w.heap.size≤gb125));have n3_:=Az.mk ((by rw [hg];exact (be_ (by repeat (first|(with_reducible first|exact HB.out|apply bA_|apply bN_|apply bD_)|exact HB.out))):w.heap.size≤gb125));clear HB;have HB:=n0_;have BK125:=n1_;have GW125:=n2_;have GE125:=n3_;clear n0_ n1_ n2_ n3_;clear hb hbox hg;have hcz5_0:w4.cell? ⟨gb125,0,none⟩=some (.bool a0_0):=(bc_ BK125.out 0).trans rfl;have hcz5_1:w4.cell? ⟨gb125,1,none⟩=some (.slice A0_1 l0_1.length c0_1):=(bc_ BK125.out 1).trans rfl;have hfz5_0:=bf_ BK125.out 0;have hfz5_1:=bf_ BK125.out 1)|(go_at_call 60;(with_reducible refine (cadenceref3_in.calls k _ _ l0_1 a1 t126 _ ?side1 ?side2 A3.out).mono ?_);(case side1=>repeat (first|exact (Kd.C_below HR0_1.out HB.out)|(with_reducible refine cA_ ?_ _)|(with_reducible refine cN_ ?_ _)|(with_reducible refine cD_ ?_)));(case side2=>exact HC0_1.out);rintro e w' ⟨rfl,⟨nd,rfl⟩⟩;(try first|exact ⟨rfl,_,World.drewN_drewN _ _ _⟩|exact ⟨rfl,_,Eq.trans (World.drewN_drewN _ _ _) (congrArg (World.drewN _) (Nat.add_assoc _ _ _))⟩)))
 repeat (go_quiet (first|((with_reducible refine gate_dst (N:=2) rfl ?_);refine box_event ?hg (N:=2) ?hd (cs:=#[.bool a0_0,.slice A0_1 l0_1.length c0_1]) (t:=38) ?hr ?_;(case hd=>rfl);(case hg=>rfl);(case hr=>first|(go_simp;done)|(go_simp;rfl));intro gb125 hg w4 hbox hb;have n0_:=Az.mk (below_step (by repeat (first|(with_reducible first|exact HB.out|apply bA_|apply bN_|apply bD_)|exact HB.out)) hb);have n1_:=Az.mk (hbox);have n2_:=Az.mk ((by rw [hg];exact (be_ (by repeat (first|(with_reducible first|exact HB.out|apply bA_|apply bN_|apply bD_)|exact HB.out))):w.heap.size≤gb125));have n3_:=Az.mk ((by rw [hg];exact (be_ (by repeat (first|(with_reducible first|exact HB.out|apply bA_|apply bN_|apply bD_)|exact HB.out))):w.heap.size≤gb125));clear HB;have HB:=n0_;have BK125:=n1_;have GW125:=n2_;have GE125:=n3_;clear n0_ n1_ n2_ n3_;clear hb hbox hg;have hcz5_0:w4.cell? ⟨gb125,0,none⟩=some (.bool a0_0):=(bc_ BK125.out 0).trans rfl;have hcz5_1:w4.cell? ⟨gb125,1,none⟩=some (.slice A0_1 l0_1.length c0_1):=(bc_ BK125.out 1).trans rfl;have hfz5_0:=bf_ BK125.out 0;have hfz5_1:=bf_ BK125.out 1)|(go_at_call 60;(with_reducible refine (cadenceref3_in.calls k _ _ l0_1 a1 t126 _ ?side1 ?side2 A3.out).mono ?_);(case side1=>repeat (first|exact (Kd.C_below HR0_1.out HB.out)|(with_reducible refine cA_ ?_ _)|(with_reducible refine cN_ ?_ _)|(with_reducible refine cD_ ?_)));(case side2=>exact HC0_1.out);rintro e w' ⟨rfl,⟨nd,rfl⟩⟩;(try first|exact ⟨rfl,_,World.drewN_drewN _ _ _⟩|exact ⟨rfl,_,Eq.trans (World.drewN_drewN _ _ _) (congrArg (World.drewN _) (Nat.add_assoc _ _ _))⟩)));try go_wp2_with (first|((with_reducible refine gate_dst (N:=2) rfl ?_);refine box_event ?hg (N:=2) ?hd (cs:=#[.bool a0_0,.slice A0_1 l0_1.length c0_1]) (t:=38) ?hr ?_;(case hd=>rfl);(case hg=>rfl);(case hr=>first|(go_simp;done)|(go_simp;rfl));intro gb125 hg w4 hbox hb;have n0_:=Az.mk (below_step (by repeat (first|(with_reducible first|exact HB.out|apply bA_|apply bN_|apply bD_)|exact HB.out)) hb);have n1_:=Az.mk (hbox);have n2_:=Az.mk ((by rw [hg];exact (be_ (by repeat (first|(with_reducible first|exact HB.out|apply bA_|apply bN_|apply bD_)|exact HB.out))):w.heap.size≤gb125));have n3_:=Az.mk ((by rw [hg];exact (be_ (by repeat (first|(with_reducible first|exact HB.out|apply bA_|apply bN_|apply bD_)|exact HB.out))):w.heap.size≤gb125));clear HB;have HB:=n0_;have BK125:=n1_;have GW125:=n2_;have GE125:=n3_;clear n0_ n1_ n2_ n3_;clear hb hbox hg;have hcz5_0:w4.cell? ⟨gb125,0,none⟩=some (.bool a0_0):=(bc_ BK125.out 0).trans rfl;have hcz5_1:w4.cell? ⟨gb125,1,none⟩=some (.slice A0_1 l0_1.length c0_1):=(bc_ BK125.out 1).trans rfl;have hfz5_0:=bf_ BK125.out 0;have hfz5_1:=bf_ BK125.out 1)|(go_at_call 60;(with_reducible refine (cadenceref3_in.calls k _ _ l0_1 a1 t126 _ ?side1 ?side2 A3.out).mono ?_);(case side1=>repeat (first|exact (Kd.C_below HR0_1.out HB.out)|(with_reducible refine cA_ ?_ _)|(with_reducible refine cN_ ?_ _)|(with_reducible refine cD_ ?_)));(case side2=>exact HC0_1.out);rintro e w' ⟨rfl,⟨nd,rfl⟩⟩;(try first|exact ⟨rfl,_,World.drewN_drewN _ _ _⟩|exact ⟨rfl,_,Eq.trans (World.drewN_drewN _ _ _) (congrArg (World.drewN _) (Nat.add_assoc _ _ _))⟩))))
 go_ret
 exact ⟨by first|rfl|(simp [errW_none,errW_some] <;> rfl)|(simp [*,errW_none,errW_some] <;> rfl),by repeat (first|(with_reducible first|exact HB.out|apply bA_|apply bN_|apply bD_|refine bs_ ?_ GE125.out)|exact HB.out)⟩
end Go.Proofs.Ytoihiehoolehiaa.PX
