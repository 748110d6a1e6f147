/- Texts on the way to 'SchemaLevels', one behind the other (part 1). -/
import Derived.Test.YtoihiehoolehiaaProg
import Derived.Below
import Derived.Deep.Draws
import Derived.Deep.AppendLies
import Derived.Maps.AppendAt
import Derived.OwnWalk
import Derived.Laws.BytesArg
import Derived.Laws.MakeOwn
import Derived.Laws.OwnMore
import Derived.Deep.OwnRows
import Derived.Tactics
import Derived.Lib.ConvBytes
import Derived.Laws.Slices
import Derived.WalkKit
import Derived.KernelRfl
import Derived.RowKit3
import Derived.Deep.LoopGhost
import Derived.Deep.QuietTactic
import Derived.BigQuiet
import Derived.WideLaws
import Derived.Deep.DeepCutAuto
import Derived.Deep.CutBlock
import Derived.Deep.RegionHeld3
import Derived.Laws.Rows
import Derived.Lib.AppendStr
import Derived.ArgAppend
import Derived.Laws.IdiomCopy
import Derived.OrdersHeld
import Derived.Laws.BitsLemmas
import Derived.RowKit
import Derived.Lib.SliceRun
import Derived.Test.YtoihiehoolehiaaMSchemaLevelsWWords
import Derived.Test.YtoihiehoolehiaaMSchemaLevelsWLast
import Derived.Test.YtoihiehoolehiaaMSchemaLevelsWTab
import Derived.Test.YtoihiehoolehiaaMSchemaLevelsWQPut
import Derived.Test.YtoihiehoolehiaaMSchemaLevelsWApart
import Derived.Test.YtoihiehoolehiaaMSchemaLevelsWArr
import Derived.Test.YtoihiehoolehiaaMSchemaLevelsWZeros
import Derived.Test.YtoihiehoolehiaaMSchemaLevelsWFoot
import Derived.Test.YtoihiehoolehiaaMSchemaLevelsWKept
import Derived.Test.YtoihiehoolehiaaMSchemaLevelsWShare
import Derived.Test.YtoihiehoolehiaaMSchemaLevelsWN
import Derived.Test.YtoihiehoolehiaaMSchemaLevelsWRepsOne
import Derived.Test.YtoihiehoolehiaaMSchemaLevelsWGuard
import Derived.Test.YtoihiehoolehiaaMSchemaLevelsWNEv
import Derived.Test.YtoihiehoolehiaaMSchemaLevelsWMore
import Derived.Sort.Walk0
import Derived.Shelf.Abstract
import Derived.Laws.EntriesVeiled
import Derived.Deep.Slices
import Derived.SizedLaws
import Derived.ChangeSame
import Derived.ChangeShapes
import Derived.ChangeAt
import Derived.WideShapes
import Derived.SliceStrings
namespace Go.Proofs.Ytoihiehoolehiaa.PX
open Go.RowKit Go.Proofs.YtoihiehoolehiaaW.PrintWords Go.Proofs.YtoihiehoolehiaaW.PrintLast Go.Proofs.YtoihiehoolehiaaW.PrintMore
attribute [local go_sem] max2_int min2_int max_two min_two max_three min_three max_four min_four   
set_option linter.unusedVariables false
set_option linter.unusedSimpArgs false
def errW : Option Int → Value
  | none => .nilIface
  | some c => .iface 0 (.int .i64 c)
theorem errW_none : errW none = .nilIface := rfl
theorem errW_some (c : Int) : errW (some c) = .iface 0 (.int .i64 c) := rfl
theorem info9 : (Try.prog.info? 9).map (fun i => (i.zero, i.size, i.bytes)) = some (some (.string ⟨#[]⟩), 1, 16) := by kernel_rfl
theorem info33 : (Try.prog.info? 33).map (fun i => (i.zero, i.size, i.bytes)) = some (some (.agg #[(.slice none 0 0), (.bool false), (.bool false)]), 3, 32) := by kernel_rfl
theorem info40 : (Try.prog.info? 40).map (fun i => (i.zero, i.size, i.bytes)) = some (some (.agg #[(.bool false), (.slice none 0 0), (.int .i64 0), (.bool false)]), 4, 48) := by kernel_rfl
theorem info53 : (Try.prog.info? 53).map (fun i => (i.zero, i.size, i.bytes)) = some (some (.agg #[(.string ⟨#[]⟩), (.slice none 0 0)]), 2, 40) := by kernel_rfl
structure S38 where
  f0 : Bool
  f1 : (List ByteArray)
def z38 : S38 := ⟨false, ([] : List ByteArray)⟩
def k38 : Kd S38 := Kd.iso (Kd.pair Kd.bool (Kd.slice 9 Kd.string)) (fun x : S38 => (x.f0, x.f1))
theorem k38_open {w : World} {x : S38} {cs : List Value} (h : k38.K w x cs) : ∃ A1 c1, cs = [.bool x.f0, .slice A1 x.f1.length c1] ∧ x.f1.length ≤ c1 ∧ Kd.string.C w A1 x.f1.length x.f1 := by
  obtain ⟨_, _, rfl, rfl, ⟨A1, c1, rfl, l1, g1⟩⟩ := h
  exact ⟨A1, c1, rfl, l1, g1⟩
theorem k38_mk (w : World) (x : S38) {A1 : Option Addr} {c1 : Nat} (l1 : x.f1.length ≤ c1) (g1 : Kd.string.C w A1 x.f1.length x.f1) : k38.K w x [.bool x.f0, .slice A1 x.f1.length c1] := ⟨[.bool x.f0], [.slice A1 x.f1.length c1], rfl, rfl, ⟨A1, c1, rfl, l1, g1⟩⟩
theorem k38_mkM (w : World) (base : Nat) (ok : Nat → Prop) (x : S38) {v1 : Value} (g1 : Kd.string.R 9 w base ok v1 x.f1) : k38.M w base ok x [.bool x.f0, v1] := ⟨[.bool x.f0], [v1], rfl, rfl, ⟨v1, rfl, g1⟩⟩
structure S40 where
  f0 : S38
  f1 : Int
  f2 : Bool
def z40 : S40 := ⟨z38, (0 : Int), false⟩
def k40 : Kd S40 := Kd.iso (Kd.pair k38 (Kd.pair (Kd.int .i64) Kd.bool)) (fun x : S40 => (x.f0, x.f1, x.f2))
theorem k40_open {w : World} {x : S40} {cs : List Value} (h : k40.K w x cs) : ∃ A1 c1, cs = [.bool x.f0.f0, .slice A1 x.f0.f1.length c1, .int .i64 x.f1, .bool x.f2] ∧ x.f0.f1.length ≤ c1 ∧ Kd.string.C w A1 x.f0.f1.length x.f0.f1 := by
  obtain ⟨_, _, rfl, s0, ⟨_, _, rfl, rfl, rfl⟩⟩ := h
  obtain ⟨A1, c1, rfl, l1, g1⟩ := k38_open s0
  exact ⟨A1, c1, rfl, l1, g1⟩
theorem k40_mk (w : World) (x : S40) {A1 : Option Addr} {c1 : Nat} (l1 : x.f0.f1.length ≤ c1) (g1 : Kd.string.C w A1 x.f0.f1.length x.f0.f1) : k40.K w x [.bool x.f0.f0, .slice A1 x.f0.f1.length c1, .int .i64 x.f1, .bool x.f2] := ⟨[.bool x.f0.f0, .slice A1 x.f0.f1.length c1], [.int .i64 x.f1, .bool x.f2], rfl, (k38_mk w x.f0 l1 g1), ⟨[.int .i64 x.f1], [.bool x.f2], rfl, rfl, rfl⟩⟩
theorem k40_mkM (w : World) (base : Nat) (ok : Nat → Prop) (x : S40) {v1 : Value} (g1 : Kd.string.R 9 w base ok v1 x.f0.f1) : k40.M w base ok x [.bool x.f0.f0, v1, .int .i64 x.f1, .bool x.f2] := ⟨[.bool x.f0.f0, v1], [.int .i64 x.f1, .bool x.f2], rfl, (k38_mkM w base ok x.f0 g1), ⟨[.int .i64 x.f1], [.bool x.f2], rfl, rfl, rfl⟩⟩
def rd_T40 (xs : List S40) (i : Int) : S40 := xs.getD i.toNat z40
theorem at_T40 {w : World} {A : Option Addr} {n : Nat} {xs : List S40} (h : Kd.C k40 w A n xs) (i : Int) (h0 : 0 ≤ i) (h1 : i < n) : ∃ ad A1 c1, A = some ad ∧ w.cell? (ad.add (i.toNat * 4)) = some (.bool (rd_T40 xs i).f0.f0) ∧ w.cell? ⟨(ad.add (i.toNat * 4)).block, (ad.add (i.toNat * 4)).off + 1, none⟩ = some (.slice A1 (rd_T40 xs i).f0.f1.length c1) ∧ w.cell? ⟨(ad.add (i.toNat * 4)).block, (ad.add (i.toNat * 4)).off + 2, none⟩ = some (.int .i64 (rd_T40 xs i).f1) ∧ w.cell? ⟨(ad.add (i.toNat * 4)).block, (ad.add (i.toNat * 4)).off + 3, none⟩ = some (.bool (rd_T40 xs i).f2) ∧ (rd_T40 xs i).f0.f1.length ≤ c1 ∧ Kd.string.C w A1 (rd_T40 xs i).f0.f1.length (rd_T40 xs i).f0.f1 := by
  obtain ⟨ad, c, e, _, hK, hc0⟩ := Kd.C_get h z40 i h0 h1
  have hc : ∀ j u, c[j]? = some u → w.cell? (ad.add (i.toNat * 4 + j)) = some u := hc0
  obtain ⟨A1, c1, rfl, l1, g1⟩ := k40_open hK
  exact ⟨ad, A1, c1, e, hc 0 _ rfl, by rw [← add_field _ _ 1 (by omega)]; exact hc 1 _ rfl, by rw [← add_field _ _ 2 (by omega)]; exact hc 2 _ rfl, by rw [← add_field _ _ 3 (by omega)]; exact hc 3 _ rfl, l1, g1⟩
structure S33 where
  f0 : (List S40)
  f1 : Bool
  f2 : Bool
def z33 : S33 := ⟨([] : List S40), false, false⟩
def k33 : Kd S33 := Kd.iso (Kd.pair (Kd.slice 40 k40) (Kd.pair Kd.bool Kd.bool)) (fun x : S33 => (x.f0, x.f1, x.f2))
theorem k33_open {w : World} {x : S33} {cs : List Value} (h : k33.K w x cs) : ∃ A0 c0, cs = [.slice A0 x.f0.length c0, .bool x.f1, .bool x.f2] ∧ x.f0.length ≤ c0 ∧ k40.C w A0 x.f0.length x.f0 := by
  obtain ⟨_, _, rfl, ⟨A0, c0, rfl, l0, g0⟩, ⟨_, _, rfl, rfl, rfl⟩⟩ := h
  exact ⟨A0, c0, rfl, l0, g0⟩
theorem k33_mk (w : World) (x : S33) {A0 : Option Addr} {c0 : Nat} (l0 : x.f0.length ≤ c0) (g0 : k40.C w A0 x.f0.length x.f0) : k33.K w x [.slice A0 x.f0.length c0, .bool x.f1, .bool x.f2] := ⟨[.slice A0 x.f0.length c0], [.bool x.f1, .bool x.f2], rfl, ⟨A0, c0, rfl, l0, g0⟩, ⟨[.bool x.f1], [.bool x.f2], rfl, rfl, rfl⟩⟩
theorem k33_mkM (w : World) (base : Nat) (ok : Nat → Prop) (x : S33) {v0 : Value} (g0 : k40.R 40 w base ok v0 x.f0) : k33.M w base ok x [v0, .bool x.f1, .bool x.f2] := ⟨[v0], [.bool x.f1, .bool x.f2], rfl, ⟨v0, rfl, g0⟩, ⟨[.bool x.f1], [.bool x.f2], rfl, rfl, rfl⟩⟩
def rd_T33 (xs : List S33) (i : Int) : S33 := xs.getD i.toNat z33
theorem at_T33 {w : World} {A : Option Addr} {n : Nat} {xs : List S33} (h : Kd.C k33 w A n xs) (i : Int) (h0 : 0 ≤ i) (h1 : i < n) : ∃ ad A0 c0, A = some ad ∧ w.cell? (ad.add (i.toNat * 3)) = some (.slice A0 (rd_T33 xs i).f0.length c0) ∧ w.cell? ⟨(ad.add (i.toNat * 3)).block, (ad.add (i.toNat * 3)).off + 1, none⟩ = some (.bool (rd_T33 xs i).f1) ∧ w.cell? ⟨(ad.add (i.toNat * 3)).block, (ad.add (i.toNat * 3)).off + 2, none⟩ = some (.bool (rd_T33 xs i).f2) ∧ (rd_T33 xs i).f0.length ≤ c0 ∧ k40.C w A0 (rd_T33 xs i).f0.length (rd_T33 xs i).f0 := by
  obtain ⟨ad, c, e, _, hK, hc0⟩ := Kd.C_get h z33 i h0 h1
  have hc : ∀ j u, c[j]? = some u → w.cell? (ad.add (i.toNat * 3 + j)) = some u := hc0
  obtain ⟨A0, c0, rfl, l0, g0⟩ := k33_open hK
  exact ⟨ad, A0, c0, e, hc 0 _ rfl, by rw [← add_field _ _ 1 (by omega)]; exact hc 1 _ rfl, by rw [← add_field _ _ 2 (by omega)]; exact hc 2 _ rfl, l0, g0⟩
structure S53 where
  f0 : ByteArray
  f1 : (List S53)
def z53 : S53 := ⟨(⟨#[]⟩ : ByteArray), ([] : List S53)⟩
def F53 (d : Kd S53) : Kd S53 := Kd.iso (Kd.pair Kd.string (Kd.slice 53 d)) (fun x : S53 => (x.f0, x.f1))
theorem mono53 : Kd.Mono F53 := Kd.mono_iso _ (Kd.mono_pair (Kd.mono_const _) (Kd.mono_slice 53 Kd.mono_id))
theorem sub53 : Kd.Sub F53 [53] := Kd.sub_iso _ (Kd.sub_pair (Kd.sub_const _ (by decide)) (Kd.sub_slice 53 (by decide) Kd.sub_id))
theorem sz53 : ∀ n, (Kd.upto F53 2 [53] n).sz = 2 := Kd.upto_sz (fun _ => rfl)
def k53 : Kd S53 := Kd.fix F53 2 [53] sz53 (Kd.upto_E sub53)
theorem k53_open {w : World} {x : S53} {cs : List Value} (h : k53.K w x cs) : ∃ A1 c1, cs = [.string x.f0, .slice A1 x.f1.length c1] ∧ x.f1.length ≤ c1 ∧ k53.C w A1 x.f1.length x.f1 := by
  obtain ⟨n, h⟩ := h
  cases n with
  | zero => exact h.elim
  | succ n =>
    obtain ⟨_, _, rfl, rfl, ⟨A1, c1, rfl, l1, g1⟩⟩ := h
    exact ⟨A1, c1, rfl, l1, Kd.fix_C g1⟩
theorem k53_mk (w : World) (x : S53) {A1 : Option Addr} {c1 : Nat} (l1 : x.f1.length ≤ c1) (g1 : k53.C w A1 x.f1.length x.f1) : k53.K w x [.string x.f0, .slice A1 x.f1.length c1] := by
  obtain ⟨n1, q1⟩ := Kd.fix_C_back mono53 g1
  have r1 := Kd.upto_C_le mono53 sz53 (show n1 ≤ n1 by omega) q1
  exact ⟨n1 + 1, ⟨[.string x.f0], [.slice A1 x.f1.length c1], rfl, rfl, ⟨A1, c1, rfl, l1, r1⟩⟩⟩
theorem k53_mkM (w : World) (base : Nat) (ok : Nat → Prop) (x : S53) {v1 : Value} (g1 : k53.R 53 w base ok v1 x.f1) : k53.M w base ok x [.string x.f0, v1] := by
  obtain ⟨n1, q1⟩ := Kd.fix_R_back mono53 g1
  have r1 := Kd.upto_R_le mono53 sz53 (show n1 ≤ n1 by omega) q1
  exact ⟨n1 + 1, ⟨[.string x.f0], [v1], rfl, rfl, ⟨v1, rfl, r1⟩⟩⟩
theorem k53_mkF (W : World) (ok : Nat → Prop) (x : S53) {A1 : Option Addr} {c1 : Nat} (l1 : x.f1.length ≤ c1) (g1 : Kd.F k53 W ok A1 x.f1.length x.f1) : Kd.FK k53 W ok x [.string x.f0, .slice A1 x.f1.length c1] := fun W2 hW => k53_mk W2 x l1 (g1 W2 hW)
def rd_T53 (xs : List S53) (i : Int) : S53 := xs.getD i.toNat z53
theorem at_T53 {w : World} {A : Option Addr} {n : Nat} {xs : List S53} (h : Kd.C k53 w A n xs) (i : Int) (h0 : 0 ≤ i) (h1 : i < n) : ∃ ad A1 c1, A = some ad ∧ w.cell? (ad.add (i.toNat * 2)) = some (.string (rd_T53 xs i).f0) ∧ w.cell? ⟨(ad.add (i.toNat * 2)).block, (ad.add (i.toNat * 2)).off + 1, none⟩ = some (.slice A1 (rd_T53 xs i).f1.length c1) ∧ (rd_T53 xs i).f1.length ≤ c1 ∧ k53.C w A1 (rd_T53 xs i).f1.length (rd_T53 xs i).f1 := by
  obtain ⟨ad, c, e, _, hK, hc0⟩ := Kd.C_get h z53 i h0 h1
  have hc : ∀ j u, c[j]? = some u → w.cell? (ad.add (i.toNat * 2 + j)) = some u := hc0
  obtain ⟨A1, c1, rfl, l1, g1⟩ := k53_open hK
  exact ⟨ad, A1, c1, e, hc 0 _ rfl, by rw [← add_field _ _ 1 (by omega)]; exact hc 1 _ rfl, l1, g1⟩
structure S67 where
  f0 : ByteArray
  f1 : (List S67)
def z67 : S67 := ⟨(⟨#[]⟩ : ByteArray), ([] : List S67)⟩
def F67 (d : Kd S67) : Kd S67 := Kd.iso (Kd.pair Kd.string (Kd.slice 67 d)) (fun x : S67 => (x.f0, x.f1))
theorem mono67 : Kd.Mono F67 := Kd.mono_iso _ (Kd.mono_pair (Kd.mono_const _) (Kd.mono_slice 67 Kd.mono_id))
theorem sub67 : Kd.Sub F67 [67] := Kd.sub_iso _ (Kd.sub_pair (Kd.sub_const _ (by decide)) (Kd.sub_slice 67 (by decide) Kd.sub_id))
theorem sz67 : ∀ n, (Kd.upto F67 2 [67] n).sz = 2 := Kd.upto_sz (fun _ => rfl)
def k67 : Kd S67 := Kd.fix F67 2 [67] sz67 (Kd.upto_E sub67)
theorem k67_open {w : World} {x : S67} {cs : List Value} (h : k67.K w x cs) : ∃ A1 c1, cs = [.string x.f0, .slice A1 x.f1.length c1] ∧ x.f1.length ≤ c1 ∧ k67.C w A1 x.f1.length x.f1 := by
  obtain ⟨n, h⟩ := h
  cases n with
  | zero => exact h.elim
  | succ n =>
    obtain ⟨_, _, rfl, rfl, ⟨A1, c1, rfl, l1, g1⟩⟩ := h
    exact ⟨A1, c1, rfl, l1, Kd.fix_C g1⟩
theorem k67_mk (w : World) (x : S67) {A1 : Option Addr} {c1 : Nat} (l1 : x.f1.length ≤ c1) (g1 : k67.C w A1 x.f1.length x.f1) : k67.K w x [.string x.f0, .slice A1 x.f1.length c1] := by
  obtain ⟨n1, q1⟩ := Kd.fix_C_back mono67 g1
  have r1 := Kd.upto_C_le mono67 sz67 (show n1 ≤ n1 by omega) q1
  exact ⟨n1 + 1, ⟨[.string x.f0], [.slice A1 x.f1.length c1], rfl, rfl, ⟨A1, c1, rfl, l1, r1⟩⟩⟩
def rd_T67 (xs : List S67) (i : Int) : S67 := xs.getD i.toNat z67
theorem at_T67 {w : World} {A : Option Addr} {n : Nat} {xs : List S67} (h : Kd.C k67 w A n xs) (i : Int) (h0 : 0 ≤ i) (h1 : i < n) : ∃ ad A1 c1, A = some ad ∧ w.cell? (ad.add (i.toNat * 2)) = some (.string (rd_T67 xs i).f0) ∧ w.cell? ⟨(ad.add (i.toNat * 2)).block, (ad.add (i.toNat * 2)).off + 1, none⟩ = some (.slice A1 (rd_T67 xs i).f1.length c1) ∧ (rd_T67 xs i).f1.length ≤ c1 ∧ k67.C w A1 (rd_T67 xs i).f1.length (rd_T67 xs i).f1 := by
  obtain ⟨ad, c, e, _, hK, hc0⟩ := Kd.C_get h z67 i h0 h1
  have hc : ∀ j u, c[j]? = some u → w.cell? (ad.add (i.toNat * 2 + j)) = some u := hc0
  obtain ⟨A1, c1, rfl, l1, g1⟩ := k67_open hK
  exact ⟨ad, A1, c1, e, hc 0 _ rfl, by rw [← add_field _ _ 1 (by omega)]; exact hc 1 _ rfl, l1, g1⟩
abbrev bA_ := @below_alloc
abbrev bN_ := @pw_below_drewN
abbrev bD_ := @below_drew1
abbrev vA_ := @Kd.V_alloc
abbrev vN_ := @Kd.V_drewN
abbrev vD_ := @Kd.V_drew
abbrev nA_ := @Kd.N_alloc
abbrev nN_ := @Kd.N_drewN
abbrev nD_ := @Kd.N_drew
abbrev rA_ := @Kd.R_alloc
abbrev rN_ := @Kd.R_drewN
abbrev rD_ := @Kd.R_drew
abbrev cA_ := @Kd.C_alloc
abbrev cN_ := @Kd.C_drewN
abbrev cD_ := @Kd.C_drew
end Go.Proofs.Ytoihiehoolehiaa.PX
set_option linter.unusedVariables false
namespace Go.Proofs.Ytoihiehoolehiaa
open Go.RowKit
abbrev Str:=List UInt8
def ba (l:Str):ByteArray:=⟨l.toArray⟩
end Go.Proofs.Ytoihiehoolehiaa
namespace Go.Proofs.Ytoihiehoolehiaa.PX
open Go.RowKit Go.Proofs.YtoihiehoolehiaaW.PrintWords Go.Proofs.YtoihiehoolehiaaW.PrintLast Go.Proofs.YtoihiehoolehiaaW.PrintMore Go.Proofs.Ytoihiehoolehiaa
def tl (b:ByteArray):Str:=b.data.toList
theorem ba_tl (b:ByteArray):ba (tl b)=b:=by cases b;simp [ba,tl]
theorem tl_inj {a b:ByteArray} (h:tl a=tl b):a=b:=by rw [← ba_tl a,← ba_tl b,h]
theorem toList_tl (b:ByteArray):b.toList=tl b:=ByteArray.toList_eq b
theorem less_iff (a b:ByteArray):Op.bytesLess a.toList b.toList=true ↔ tl a < tl b:=by
 rw [toList_tl,toList_tl,Proofs.bytesLess_eq,decide_eq_true_eq]
theorem same_eq (a b:ByteArray):(a.toList == b.toList)=decide (a=b):=by
 rw [toList_tl,toList_tl,Bool.eq_iff_iff,beq_iff_eq,decide_eq_true_eq]
 exact ⟨tl_inj,fun h=>by rw [h]⟩
noncomputable instance (s:ByteArray) (l:List ByteArray):Decidable (s ∈ l):=Classical.propDecidable _
theorem Ev.both {α:Type} {g:Nat→Option α} {r:α} (h:Ev g r):∃ k,g k=some r:=h.rounds
theorem wrap_succ {i:Nat} (h:i < 4611686018427387904):wrap64 ((i:Int)+1)=((i+1:Nat):Int):=by unfold wrap64;omega
theorem wrap_id {i:Int} (h : -4611686018427387904≤i) (h':i≤4611686018427387904):wrap64 i=i:=by unfold wrap64;omega
theorem rdOf_nat {xs:List ByteArray} {i:Nat} (h:i < xs.length):rdOf ByteArray.empty xs (i:Int)=xs[i]:=by
 simp [rdOf,List.getD_eq_getElem?_getD,h]
theorem rdT_nat {xs:List S53} {i:Nat} (h:i < xs.length):rd_T53 xs (i:Int)=xs[i]:=by
 simp [rd_T53,List.getD_eq_getElem?_getD,h]
abbrev Tr:=List S53
def pos:Tr→ByteArray→Nat
 | [],_=>0
 | y :: t,n=>if tl y.f0 < tl n then pos t n+1 else 0
def hasAt:Tr→ByteArray→Bool
 | [],_=>false
 | y :: t,n=>if tl y.f0 < tl n then hasAt t n else decide (y.f0=n)
def Sorted (t:Tr):Prop:=t.Pairwise fun x y=>tl x.f0 < tl y.f0
instance (t:Tr):Decidable (Sorted t):=by unfold Sorted;exact inferInstance
theorem pos_le:∀ (t:Tr) (n:ByteArray),pos t n≤t.length
 | [],_=>Nat.le_refl _
 | y :: t,n=>by
  have:=pos_le t n
  unfold pos
  split <;> simp <;> omega
theorem pos_below:∀ (t:Tr) (n:ByteArray) (i:Nat) (h:i < t.length),i < pos t n→tl (t[i]).f0 < tl n
 | y :: t,n,i,h,hi=>by
  unfold pos at hi
  split at hi
  ·rename_i hy
   cases i with
   | zero=>exact hy
   | succ i=>exact pos_below t n i (by simpa using h) (by omega)
  ·omega
theorem pos_not:∀ (t:Tr) (n:ByteArray) (h:pos t n < t.length),¬ tl (t[pos t n]).f0 < tl n
 | y :: t,n,h=>by
  by_cases hy:tl y.f0 < tl n
  ·have e:pos (y :: t) n=pos t n+1:=by rw [pos,if_pos hy]
   simp only [e,List.getElem_cons_succ]
   exact pos_not t n (by rw [e] at h;simpa using h)
  ·have e:pos (y :: t) n=0:=by rw [pos,if_neg hy]
   simp only [e,List.getElem_cons_zero]
   exact hy
theorem hasAt_pos:∀ (t:Tr) (n:ByteArray),hasAt t n=if h:pos t n < t.length then decide ((t[pos t n]).f0=n) else false
 | [],n=>by simp [hasAt,pos]
 | y :: t,n=>by
  by_cases hy:tl y.f0 < tl n
  ·have e1:hasAt (y :: t) n=hasAt t n:=by rw [hasAt,if_pos hy]
   have e2:pos (y :: t) n=pos t n+1:=by rw [pos,if_pos hy]
   rw [e1,hasAt_pos t n]
   simp only [e2,List.length_cons,Nat.add_lt_add_iff_right,List.getElem_cons_succ]
  ·have e1:hasAt (y :: t) n=decide (y.f0=n):=by rw [hasAt,if_neg hy]
   have e2:pos (y :: t) n=0:=by rw [pos,if_neg hy]
   rw [e1]
   simp only [e2,List.length_cons,Nat.zero_lt_succ,dite_true,List.getElem_cons_zero]
end Go.Proofs.Ytoihiehoolehiaa.PX
set_option linter.unusedVariables false
set_option linter.unusedSimpArgs false
namespace Go.Proofs.Ytoihiehoolehiaa.PX
open Go.RowKit Go.Proofs.YtoihiehoolehiaaW.PrintWords Go.Proofs.YtoihiehoolehiaaW.PrintLast Go.Proofs.YtoihiehoolehiaaW.PrintMore Go.Proofs.Ytoihiehoolehiaa Go.Shelf
def idxN (p:Nat→Bool) (n:Nat):Int:=((List.range n).find? p).elim (-1) fun i=>(i:Int)
theorem idxN_hit {p:Nat→Bool} {n i:Nat} (h:i < n) (hp:p i=true) (hl:∀ j,j < i→p j=false):idxN p n=(i:Int):=by
 unfold idxN
 rw [List.find?_range_eq_some.2 ⟨hp,List.mem_range.2 h,fun j hj=>by rw [hl j hj];rfl⟩]
 rfl
theorem idxN_miss {p:Nat→Bool} {n:Nat} (hl:∀ j,j < n→p j=false):idxN p n = -1:=by
 unfold idxN
 rw [List.find?_range_eq_none.2 (fun j hj=>by rw [hl j hj];rfl)]
 rfl
theorem idxN_cases (p:Nat→Bool) (n:Nat):(∃ i,i < n∧p i=true∧(∀ j,j < i→p j=false)∧idxN p n=(i:Int))∨((∀ j,j < n→p j=false)∧idxN p n = -1):=by
 cases e:(List.range n).find? p with
 | none =>
  have h:=List.find?_range_eq_none.1 e
  have h':∀ j,j < n→p j=false:=fun j hj=>by simpa using h j hj
  exact .inr ⟨h',idxN_miss h'⟩
 | some i =>
  obtain ⟨h1,h2,h3⟩:=List.find?_range_eq_some.1 e
  have h':∀ j,j < i→p j=false:=fun j hj=>by simpa using h3 j hj
  exact .inl ⟨i,List.mem_range.1 h2,h1,h',idxN_hit (List.mem_range.1 h2) h1 h'⟩
def anyN (p:Nat→Bool) (n:Nat):Bool:=decide (0≤idxN p n)
theorem anyN_eq (p:Nat→Bool) (n:Nat):anyN p n=(List.range n).any p:=by
 unfold anyN
 rcases idxN_cases p n with ⟨i,h1,h2,h3,h4⟩|⟨h1,h2⟩
 ·rw [h4,decide_eq_true (by omega),(List.any_eq_true.2 ⟨i,List.mem_range.2 h1,h2⟩:(List.range n).any p=true)]
 ·rw [h2,decide_eq_false (by omega),(List.any_eq_false.2 fun j hj=>by rw [h1 j (List.mem_range.1 hj)];simp:(List.range n).any p=false)]
set_option maxHeartbeats 4000000 in
set_option maxRecDepth 100000 in
theorem idxF (g:Nat) (lb:Array Value) (eg:∀ args w,(callFunc g args).run Try.prog w=.ok (.enter g args) w) (A:Option Addr) (c:Nat) (l:List S40) (p:Nat→Bool) (w:World) (hC:Kd.C k40 w A l.length l) (hl:l.length≤1000000000000)
  (hp:∀ i (h:i < l.length) (W:World) (A1:Option Addr) (c1:Nat),Below w.heap.size w W→Kd.C Kd.string w A1 l[i].f0.f1.length l[i].f0.f1→l[i].f0.f1.length≤c1→Calls Try.prog g (#[.agg #[.bool l[i].f0.f0,.slice A1 l[i].f0.f1.length c1,.int .i64 l[i].f1,.bool l[i].f2]] ++ lb) W fun e w'=>e=.returned (.bool (p i))∧Below W.heap.size W w') :
  Calls Try.prog 57 #[.slice A l.length c,.func (.func g) #[] lb] w fun e w'=>e=.returned (.int .i64 (idxN p l.length))∧Below w.heap.size w w':=by
 have hu:=Try.underlying40
 have HC:=Aside0.mk hC
 have HP:=Aside0.mk hp
 clear hC hp
 generalize hn:l.length=n at hl ⊢
 have HN:=Aside0.mk hn
 clear hn
 generalize hr:idxN p n=r
 have HR:=Aside0.mk hr
 clear hr
 go_enter Try.func57,Try.ntmps57
 go_wp2
 go_loopg [5,8] n (fun gg _ s8 wr=>∃ kk:Nat,kk≤n∧n - kk≤gg∧s8=.int .i64 kk∧Aside0 (Below w.heap.size w wr)∧Aside0 (∀ j,j < kk→p j=false))
 case atStart=>exact ⟨0,Nat.zero_le _,by omega,rfl,⟨Below.refl _ w⟩,⟨fun j hj=>absurd hj (Nat.not_lt_zero _)⟩⟩
 case round =>
  obtain ⟨kk,hkk,hg,rfl,HB,PF⟩:=hrel
  by_cases hlt:kk < n
  ·have hm:kk < l.length:=by rw [HN.out];exact hlt
   obtain ⟨ad,A1,c1,rfl,hx0,hx1,hx2,hx3,hx4,hx5⟩:=at_T40 HC.out (kk:Int) (by omega) (by exact_mod_cast hm)
   rw [show rd_T40 l (kk:Int)=l[kk] by simp [rd_T40,List.getD_eq_getElem?_getD,hm]] at hx0 hx1 hx2 hx3 hx4 hx5
   replace hx0:=(HB.out.cell (World.block_lt_of_cell? w _ hx0)).trans hx0
   replace hx1:=(HB.out.cell (World.block_lt_of_cell? w _ hx1)).trans hx1
   replace hx2:=(HB.out.cell (World.block_lt_of_cell? w _ hx2)).trans hx2
   replace hx3:=(HB.out.cell (World.block_lt_of_cell? w _ hx3)).trans hx3
   have hcall:=HP.out kk hm wr A1 c1 HB.out hx5 hx4
   clear hx4 hx5
   simp only [Int.toNat_natCast] at hx0 hx1 hx2 hx3
   generalize (l[kk]).f0.f1.length=m1 at hx1 hcall
   generalize (l[kk]).f0.f0=y0 at hx0 hcall
   generalize (l[kk]).f1=y2 at hx2 hcall
   generalize (l[kk]).f2=y3 at hx3 hcall
   clear hm
   have hltz:(kk:Int) < (n:Int):=by omega
   cases hq:p kk with
   | true =>
    rw [hq] at hcall
    have HQ:=Aside0.mk hq
    clear hq
    go_wp2_with (go_at_fn g;refine hcall.mono ?_;rintro e w' ⟨rfl,hb'⟩)
    go_ret
    refine ⟨?_,below_then HB.out HB.out.size hb'⟩
    rw [← HR.out,idxN_hit hlt HQ.out PF.out]
    rfl
   | false =>
    rw [hq] at hcall
    have HQ:=Aside0.mk hq
    clear hq
    go_wp2_with (go_at_fn g;refine hcall.mono ?_;rintro e w' ⟨rfl,hb'⟩)
    go_roundg (n - (kk+1))
    case measure=>omega
    case rel =>
     refine ⟨kk+1,by omega,by omega,by go_num,⟨below_then HB.out HB.out.size hb'⟩,⟨fun j hj=>?_⟩⟩
     by_cases e:j=kk
     ·subst e
      exact HQ.out
     ·exact PF.out j (by omega)
  ·have hltz:¬ (kk:Int) < (n:Int):=by omega
   have:kk=n:=by omega
   subst this
   go_wp2
   go_ret
   refine ⟨?_,HB.out⟩
   rw [← HR.out,idxN_miss PF.out]
   rfl
set_option maxHeartbeats 4000000 in
set_option maxRecDepth 100000 in
theorem idxE (g:Nat) (lb:Array Value) (eg:∀ args w,(callFunc g args).run Try.prog w=.ok (.enter g args) w) (A:Option Addr) (c:Nat) (l:List S53) (p:Nat→Bool) (w:World) (hC:Kd.C k53 w A l.length l) (hl:l.length≤1000000000000)
  (hp:∀ i (h:i < l.length) (W:World) (A1:Option Addr) (c1:Nat),Below w.heap.size w W→Kd.C k53 w A1 l[i].f1.length l[i].f1→l[i].f1.length≤c1→Calls Try.prog g (#[.agg #[.string l[i].f0,.slice A1 l[i].f1.length c1]] ++ lb) W fun e w'=>e=.returned (.bool (p i))∧Below W.heap.size W w') :
  Calls Try.prog 58 #[.slice A l.length c,.func (.func g) #[] lb] w fun e w'=>e=.returned (.int .i64 (idxN p l.length))∧Below w.heap.size w w':=by
 have hu:=Try.underlying53
 have HC:=Aside0.mk hC
 have HP:=Aside0.mk hp
 clear hC hp
 generalize hn:l.length=n at hl ⊢
 have HN:=Aside0.mk hn
 clear hn
 generalize hr:idxN p n=r
 have HR:=Aside0.mk hr
 clear hr
 go_enter Try.func58,Try.ntmps58
 go_wp2
 go_loopg [5,8] n (fun gg _ s8 wr=>∃ kk:Nat,kk≤n∧n - kk≤gg∧s8=.int .i64 kk∧Aside0 (Below w.heap.size w wr)∧Aside0 (∀ j,j < kk→p j=false))
 case atStart=>exact ⟨0,Nat.zero_le _,by omega,rfl,⟨Below.refl _ w⟩,⟨fun j hj=>absurd hj (Nat.not_lt_zero _)⟩⟩
 case round =>
  obtain ⟨kk,hkk,hg,rfl,HB,PF⟩:=hrel
  by_cases hlt:kk < n
  ·have hm:kk < l.length:=by rw [HN.out];exact hlt
   obtain ⟨ad,A1,c1,rfl,hx0,hx1,hx4,hx5⟩:=at_T53 HC.out (kk:Int) (by omega) (by exact_mod_cast hm)
   rw [show rd_T53 l (kk:Int)=l[kk] by simp [rd_T53,List.getD_eq_getElem?_getD,hm]] at hx0 hx1 hx4 hx5
   replace hx0:=(HB.out.cell (World.block_lt_of_cell? w _ hx0)).trans hx0
   replace hx1:=(HB.out.cell (World.block_lt_of_cell? w _ hx1)).trans hx1
   have hcall:=HP.out kk hm wr A1 c1 HB.out hx5 hx4
   clear hx4 hx5
   simp only [Int.toNat_natCast] at hx0 hx1
   generalize (l[kk]).f1.length=m1 at hx1 hcall
   generalize (l[kk]).f0=y0 at hx0 hcall
   clear hm
   have hltz:(kk:Int) < (n:Int):=by omega
   cases hq:p kk with
   | true =>
    rw [hq] at hcall
    have HQ:=Aside0.mk hq
    clear hq
    go_wp2_with (go_at_fn g;refine hcall.mono ?_;rintro e w' ⟨rfl,hb'⟩)
    go_ret
    refine ⟨?_,below_then HB.out HB.out.size hb'⟩
    rw [← HR.out,idxN_hit hlt HQ.out PF.out]
    rfl
   | false =>
    rw [hq] at hcall
    have HQ:=Aside0.mk hq
    clear hq
    go_wp2_with (go_at_fn g;refine hcall.mono ?_;rintro e w' ⟨rfl,hb'⟩)
    go_roundg (n - (kk+1))
    case measure=>omega
    case rel =>
     refine ⟨kk+1,by omega,by omega,by go_num,⟨below_then HB.out HB.out.size hb'⟩,⟨fun j hj=>?_⟩⟩
     by_cases e:j=kk
     ·subst e
      exact HQ.out
     ·exact PF.out j (by omega)
  ·have hltz:¬ (kk:Int) < (n:Int):=by omega
   have:kk=n:=by omega
   subst this
   go_wp2
   go_ret
   refine ⟨?_,HB.out⟩
   rw [← HR.out,idxN_miss PF.out]
   rfl
set_option maxHeartbeats 4000000 in
set_option maxRecDepth 100000 in
theorem idxS (g:Nat) (lb:Array Value) (eg:∀ args w,(callFunc g args).run Try.prog w=.ok (.enter g args) w) (A:Option Addr) (c:Nat) (l:List ByteArray) (p:Nat→Bool) (w:World) (hC:Kd.C Kd.string w A l.length l) (hl:l.length≤1000000000000)
  (hp:∀ i (h:i < l.length) (W:World),Below w.heap.size w W→Calls Try.prog g (#[.string l[i]] ++ lb) W fun e w'=>e=.returned (.bool (p i))∧Below W.heap.size W w') :
  Calls Try.prog 64 #[.slice A l.length c,.func (.func g) #[] lb] w fun e w'=>e=.returned (.int .i64 (idxN p l.length))∧Below w.heap.size w w':=by
 have HC:=Aside0.mk hC
 have HP:=Aside0.mk hp
 clear hC hp
 generalize hn:l.length=n at hl ⊢
 have HN:=Aside0.mk hn
 clear hn
 generalize hr:idxN p n=r
 have HR:=Aside0.mk hr
 clear hr
 go_enter Try.func64,Try.ntmps64
 go_wp2
 go_loopg [5,8] n (fun gg _ s8 wr=>∃ kk:Nat,kk≤n∧n - kk≤gg∧s8=.int .i64 kk∧Aside0 (Below w.heap.size w wr)∧Aside0 (∀ j,j < kk→p j=false))
 case atStart=>exact ⟨0,Nat.zero_le _,by omega,rfl,⟨Below.refl _ w⟩,⟨fun j hj=>absurd hj (Nat.not_lt_zero _)⟩⟩
 case round =>
  obtain ⟨kk,hkk,hg,rfl,HB,PF⟩:=hrel
  by_cases hlt:kk < n
  ·have hm:kk < l.length:=by rw [HN.out];exact hlt
   obtain ⟨ad,rfl,hx0⟩:=Kd.at_string HC.out (kk:Int) (by omega) (by exact_mod_cast hm)
   rw [rdOf_nat hm] at hx0
   replace hx0:=(HB.out.cell (World.block_lt_of_cell? w _ hx0)).trans hx0
   have hcall:=HP.out kk hm wr HB.out
   simp only [Int.toNat_natCast] at hx0
   generalize l[kk]=y0 at hx0 hcall
   clear hm
   have hltz:(kk:Int) < (n:Int):=by omega
   cases hq:p kk with
   | true =>
    rw [hq] at hcall
    have HQ:=Aside0.mk hq
    clear hq
    go_wp2_with (go_at_fn g;refine hcall.mono ?_;rintro e w' ⟨rfl,hb'⟩)
    go_ret
    refine ⟨?_,below_then HB.out HB.out.size hb'⟩
    rw [← HR.out,idxN_hit hlt HQ.out PF.out]
    rfl
   | false =>
    rw [hq] at hcall
    have HQ:=Aside0.mk hq
    clear hq
    go_wp2_with (go_at_fn g;refine hcall.mono ?_;rintro e w' ⟨rfl,hb'⟩)
    go_roundg (n - (kk+1))
    case measure=>omega
    case rel =>
     refine ⟨kk+1,by omega,by omega,by go_num,⟨below_then HB.out HB.out.size hb'⟩,⟨fun j hj=>?_⟩⟩
     by_cases e:j=kk
     ·subst e
      exact HQ.out
     ·exact PF.out j (by omega)
  ·have hltz:¬ (kk:Int) < (n:Int):=by omega
   have:kk=n:=by omega
   subst this
   go_wp2
   go_ret
   refine ⟨?_,HB.out⟩
   rw [← HR.out,idxN_miss PF.out]
   rfl
theorem anyF (g:Nat) (lb:Array Value) (eg:∀ args w,(callFunc g args).run Try.prog w=.ok (.enter g args) w) (A:Option Addr) (c:Nat) (l:List S40) (p:Nat→Bool) (w:World) (hC:Kd.C k40 w A l.length l) (hl:l.length≤1000000000000)
  (hp:∀ i (h:i < l.length) (W:World) (A1:Option Addr) (c1:Nat),Below w.heap.size w W→Kd.C Kd.string w A1 l[i].f0.f1.length l[i].f0.f1→l[i].f0.f1.length≤c1→Calls Try.prog g (#[.agg #[.bool l[i].f0.f0,.slice A1 l[i].f0.f1.length c1,.int .i64 l[i].f1,.bool l[i].f2]] ++ lb) W fun e w'=>e=.returned (.bool (p i))∧Below W.heap.size W w') :
  Calls Try.prog 35 #[.slice A l.length c,.func (.func g) #[] lb] w fun e w'=>e=.returned (.bool (anyN p l.length))∧Below w.heap.size w w':=by
 have hc:=idxF g lb eg A c l p w hC hl hp
 clear hC hp
 unfold anyN
 generalize l.length=n at hc hl ⊢
 generalize idxN p n=r at hc ⊢
 go_enter Try.func35,Try.ntmps35
 go_wp2_with (go_at_call 57;refine hc.mono ?_;rintro e w' ⟨rfl,hb'⟩)
 go_ret
 exact ⟨rfl,hb'⟩
theorem anyE (g:Nat) (lb:Array Value) (eg:∀ args w,(callFunc g args).run Try.prog w=.ok (.enter g args) w) (A:Option Addr) (c:Nat) (l:List S53) (p:Nat→Bool) (w:World) (hC:Kd.C k53 w A l.length l) (hl:l.length≤1000000000000)
  (hp:∀ i (h:i < l.length) (W:World) (A1:Option Addr) (c1:Nat),Below w.heap.size w W→Kd.C k53 w A1 l[i].f1.length l[i].f1→l[i].f1.length≤c1→Calls Try.prog g (#[.agg #[.string l[i].f0,.slice A1 l[i].f1.length c1]] ++ lb) W fun e w'=>e=.returned (.bool (p i))∧Below W.heap.size W w') :
  Calls Try.prog 36 #[.slice A l.length c,.func (.func g) #[] lb] w fun e w'=>e=.returned (.bool (anyN p l.length))∧Below w.heap.size w w':=by
 have hc:=idxE g lb eg A c l p w hC hl hp
 clear hC hp
 unfold anyN
 generalize l.length=n at hc hl ⊢
 generalize idxN p n=r at hc ⊢
 go_enter Try.func36,Try.ntmps36
 go_wp2_with (go_at_call 58;refine hc.mono ?_;rintro e w' ⟨rfl,hb'⟩)
 go_ret
 exact ⟨rfl,hb'⟩
theorem anyS (g:Nat) (lb:Array Value) (eg:∀ args w,(callFunc g args).run Try.prog w=.ok (.enter g args) w) (A:Option Addr) (c:Nat) (l:List ByteArray) (p:Nat→Bool) (w:World) (hC:Kd.C Kd.string w A l.length l) (hl:l.length≤1000000000000)
  (hp:∀ i (h:i < l.length) (W:World),Below w.heap.size w W→Calls Try.prog g (#[.string l[i]] ++ lb) W fun e w'=>e=.returned (.bool (p i))∧Below W.heap.size W w') :
  Calls Try.prog 55 #[.slice A l.length c,.func (.func g) #[] lb] w fun e w'=>e=.returned (.bool (anyN p l.length))∧Below w.heap.size w w':=by
 have hc:=idxS g lb eg A c l p w hC hl hp
 clear hC hp
 unfold anyN
 generalize l.length=n at hc hl ⊢
 generalize idxN p n=r at hc ⊢
 go_enter Try.func55,Try.ntmps55
 go_wp2_with (go_at_call 64;refine hc.mono ?_;rintro e w' ⟨rfl,hb'⟩)
 go_ret
 exact ⟨rfl,hb'⟩
theorem firstF (g:Nat) (lb:Array Value) (eg:∀ args w,(callFunc g args).run Try.prog w=.ok (.enter g args) w) (A:Option Addr) (c:Nat) (l:List S40) (p:Nat→Bool) (w:World) (hC:Kd.C k40 w A l.length l) (hl:l.length≤1000000000000)
  (hp:∀ i (h:i < l.length) (W:World) (A1:Option Addr) (c1:Nat),Below w.heap.size w W→Kd.C Kd.string w A1 l[i].f0.f1.length l[i].f0.f1→l[i].f0.f1.length≤c1→Calls Try.prog g (#[.agg #[.bool l[i].f0.f0,.slice A1 l[i].f0.f1.length c1,.int .i64 l[i].f1,.bool l[i].f2]] ++ lb) W fun e w'=>e=.returned (.bool (p i))∧Below W.heap.size W w') :
  Calls Try.prog 39 #[.slice A l.length c,.func (.func g) #[] lb] w fun e w'=>e=.returned (.int .i64 (idxN p l.length))∧Below w.heap.size w w':=by
 have hc:=idxF g lb eg A c l p w hC hl hp
 clear hC hp
 generalize l.length=n at hc hl ⊢
 generalize idxN p n=r at hc ⊢
 go_enter Try.func39,Try.ntmps39
 go_wp2_with (go_at_call 57;refine hc.mono ?_;rintro e w' ⟨rfl,hb'⟩)
 go_ret
 exact ⟨rfl,hb'⟩
end Go.Proofs.Ytoihiehoolehiaa.PX
namespace Go.Proofs.Ytoihiehoolehiaa.PX
open Go.RowKit Go.Proofs.YtoihiehoolehiaaW.PrintWords Go.Proofs.YtoihiehoolehiaaW.PrintLast Go.Proofs.YtoihiehoolehiaaW.PrintMore
attribute [local go_sem] max2_int min2_int max_two min_two max_three min_three max_four min_four   
set_option linter.unusedVariables false
set_option linter.unusedSimpArgs false
def slices_Index_string_string.l0:Nat→List ByteArray→ByteArray→Int→Int→Option (Int)
 | 0,_,_,_,_=>none
 | k+1,x0,x1,x7,x8=>if x8 < x7 then (if 0≤x8 then (if x8 < (x0.length:Int) then (if x1.toList=(rdOf ByteArray.empty x0 x8).toList then (some x8) else (slices_Index_string_string.l0 k x0 x1 x7 (wrap64 (x8+1)))) else (none)) else (none)) else (some (-1))
def slices_Index_string_string.f (k:Nat) (l0:List ByteArray) (a1:ByteArray):Option (Int):=slices_Index_string_string.l0 k l0 a1 (l0.length:Int) 0
theorem slices_Index_string_string.mono_l:∀ k,(∀ y0 y1 y2 y3,LeO (slices_Index_string_string.l0 k y0 y1 y2 y3) (slices_Index_string_string.l0 (k+1) y0 y1 y2 y3))
 | 0=>fun _ _ _ _ r h=>by simp [slices_Index_string_string.l0] at h
 | k+1=>by
  have ih0:=slices_Index_string_string.mono_l k
  ·intro y0 y1 y2 y3
   unfold slices_Index_string_string.l0
   repeat' first
   | (with_reducible exact ih0 _ _ _ _)
   | (with_reducible exact LeO.refl _)
   | (with_reducible exact LeO.none _)
   | (with_reducible refine LeO.ite ?_ ?_)
   | (with_reducible refine LeO.bind ?_ (fun _=>?_))
   | exact ih0 _ _ _ _
   | exact LeO.none _
   | refine LeO.ite ?_ ?_
   | refine LeO.bind ?_ (fun _=>?_)
theorem slices_Index_string_string.mono:∀ a0 a1 k,LeO (slices_Index_string_string.f k a0 a1) (slices_Index_string_string.f (k+1) a0 a1):=by
 intro a0 a1 k
 have ih0:=slices_Index_string_string.mono_l k
 unfold slices_Index_string_string.f
 repeat' first
   | (with_reducible exact ih0 _ _ _ _)
   | (with_reducible exact LeO.refl _)
   | (with_reducible exact LeO.none _)
   | (with_reducible refine LeO.ite ?_ ?_)
   | (with_reducible refine LeO.bind ?_ (fun _=>?_))
   | exact ih0 _ _ _ _
   | exact LeO.none _
   | refine LeO.ite ?_ ?_
   | refine LeO.bind ?_ (fun _=>?_)
set_option maxHeartbeats 8000000 in
set_option maxRecDepth 100000 in
theorem slices_Index_string_string.calls (k:Nat) (A0:Option Addr) (c0:Nat) (l0:List ByteArray) (a1:ByteArray) (r:Int) (w:World) (hr0:Kd.C Kd.string w A0 l0.length l0) (hc0:l0.length≤c0) (h:slices_Index_string_string.f k l0 a1=some r) :
  Calls Try.prog 65 #[.slice A0 l0.length c0,.string a1] w fun e w'=>e=.returned (.int .i64 r)∧Drawn0 w w':=by
 have HR0:=Aside0.mk hr0
 have HC0:=Aside0.mk hc0
 clear hr0 hc0
 have H:(slices_Index_string_string.l0 k l0 a1 (l0.length:Int) 0)=some r:=h
 clear h
 have H':=Aside0.mk H
 clear H
 go_enter Try.func65,Try.ntmps65
 go_wp2
 go_loopg [8] k (fun kq v8 w'=>∃ (x8_1:Int),v8=.int .i64 x8_1∧Aside0 (slices_Index_string_string.l0 kq l0 a1 (l0.length:Int) x8_1=some r)∧Aside0 (kq≤k)∧Drawn0 w w')
 case atStart=>exact ⟨(0),(by first|rfl|(simp;done)|(simp [*];done)),H',⟨Nat.le_refl _⟩,by repeat (first|exact Drawn0.refl _|apply Drawn0.step)⟩
 case round =>
  clear H'
  try clear p2
  obtain ⟨x8_1,rfl,HA,HK1,⟨m1,rfl⟩⟩:=hrel
  cases gk with
  | zero=>exact absurd HA.out (by simp [slices_Index_string_string.l0])
  | succ k1 =>
   have H:=HA.out
   clear HA
   simp only [slices_Index_string_string.l0] at H
   by_cases c3:x8_1 < (l0.length:Int)
   ·rw [if_pos c3] at H
    have c3b0:decide (x8_1 < (l0.length:Int))=true:=decide_eq_true c3
    clear c3
    by_cases c4:0≤x8_1
    ·rw [if_pos c4] at H
     have c4b0:decide (0≤x8_1)=true:=decide_eq_true c4
     clear c4
     by_cases c5:x8_1 < (l0.length:Int)
     ·rw [if_pos c5] at H
      have c5b0:decide (x8_1 < (l0.length:Int))=true:=decide_eq_true c5
      clear c5
      by_cases c6:a1.toList=(rdOf ByteArray.empty l0 x8_1).toList
      ·rw [if_pos c6] at H
       have c6b0:(a1.toList == (rdOf ByteArray.empty l0 x8_1).toList)=true:=beq_iff_eq.mpr c6
       have c6b1:(a1.toList != (rdOf ByteArray.empty l0 x8_1).toList)=false:=bne_eq_false_iff_eq.mpr c6
       clear c6
       obtain rfl:=Option.some.inj H
       have p350:0≤(x8_1:Int):=of_decide_eq_true (by first|(with_reducible assumption)|assumption)
       have q350:x8_1 < (l0.length:Int):=of_decide_eq_true (by first|(with_reducible assumption)|assumption)
       obtain ⟨ad350,e350,hx350_0⟩:=Kd.at_string HR0.out x8_1 p350 q350
       cases e350
       replace p350:=eq_true p350
       replace q350:=eq_true q350
       go_wp2
       go_ret
       exact ⟨by first|rfl|(simp;done)|(simp [*];done),by repeat (first|exact Drawn0.refl _|apply Drawn0.step)⟩
      ·rw [if_neg c6] at H
       have c6b0:(a1.toList == (rdOf ByteArray.empty l0 x8_1).toList)=false:=beq_eq_false_iff_ne.mpr c6
       have c6b1:(a1.toList != (rdOf ByteArray.empty l0 x8_1).toList)=true:=bne_iff_ne.mpr c6
       have H':=Aside0.mk H
       clear H
       have p350:0≤(x8_1:Int):=of_decide_eq_true (by first|(with_reducible assumption)|assumption)
       have q350:x8_1 < (l0.length:Int):=of_decide_eq_true (by first|(with_reducible assumption)|assumption)
       obtain ⟨ad350,e350,hx350_0⟩:=Kd.at_string HR0.out x8_1 p350 q350
       cases e350
       replace p350:=eq_true p350
       replace q350:=eq_true q350
       go_wp2
       go_roundg k1
       case measure=>have:=HK1.out;omega
       case rel=>exact ⟨(wrap64 (x8_1+1)),(by first|rfl|(simp;done)|(simp [*];done)),H',⟨by have:=HK1.out;omega⟩,by repeat (first|exact Drawn0.refl _|apply Drawn0.step)⟩
     ·rw [if_neg c5] at H
      exact absurd H (by simp)
    ·rw [if_neg c4] at H
     exact absurd H (by simp)
   ·rw [if_neg c3] at H
    have c3b0:decide (x8_1 < (l0.length:Int))=false:=decide_eq_false c3
    clear c3
    obtain rfl:=Option.some.inj H
    go_wp2
    go_ret
    exact ⟨by first|rfl|(simp;done)|(simp [*];done),by repeat (first|exact Drawn0.refl _|apply Drawn0.step)⟩
end Go.Proofs.Ytoihiehoolehiaa.PX
namespace Go.Proofs.Ytoihiehoolehiaa.PX
open Go.RowKit Go.Proofs.YtoihiehoolehiaaW.PrintWords Go.Proofs.YtoihiehoolehiaaW.PrintLast Go.Proofs.YtoihiehoolehiaaW.PrintMore
attribute [local go_sem] max2_int min2_int max_two min_two max_three min_three max_four min_four   
set_option linter.unusedVariables false
set_option linter.unusedSimpArgs false
def slices_Contains_string_string.f (k:Nat) (l0:List ByteArray) (a1:ByteArray):Option (Bool):=(slices_Index_string_string.f k l0 a1).bind fun t351=>(some (decide (t351 ≥ 0)))
theorem slices_Contains_string_string.mono:∀ a0 a1 k,LeO (slices_Contains_string_string.f k a0 a1) (slices_Contains_string_string.f (k+1) a0 a1):=by
 intro a0 a1 k
 unfold slices_Contains_string_string.f
 repeat' first
   | (with_reducible exact slices_Index_string_string.mono _ _ _)
   | (with_reducible exact LeO.refl _)
   | (with_reducible exact LeO.none _)
   | (with_reducible refine LeO.ite ?_ ?_)
   | (with_reducible refine LeO.bind ?_ (fun _=>?_))
   | exact slices_Index_string_string.mono _ _ _
   | exact LeO.none _
   | refine LeO.ite ?_ ?_
   | refine LeO.bind ?_ (fun _=>?_)
set_option maxHeartbeats 8000000 in
set_option maxRecDepth 100000 in
theorem slices_Contains_string_string.calls (k:Nat) (A0:Option Addr) (c0:Nat) (l0:List ByteArray) (a1:ByteArray) (r:Bool) (w:World) (hr0:Kd.C Kd.string w A0 l0.length l0) (hc0:l0.length≤c0) (h:slices_Contains_string_string.f k l0 a1=some r) :
  Calls Try.prog 59 #[.slice A0 l0.length c0,.string a1] w fun e w'=>e=.returned (.bool r)∧Drawn0 w w':=by
 have HR0:=Aside0.mk hr0
 have HC0:=Aside0.mk hc0
 clear hr0 hc0
 have H:((slices_Index_string_string.f k l0 a1).bind fun t351=>(some (decide (t351 ≥ 0))))=some r:=h
 clear h
 replace H:=Option.bind_eq_some_iff.mp H
 obtain ⟨t351,A30,H⟩:=H
 replace H:(some (decide (t351 ≥ 0)))=some r:=H
 have A3:=Aside0.mk A30
 clear A30
 obtain rfl:=Option.some.inj H
 go_enter Try.func59,Try.ntmps59
 go_wp2_with (first|((with_reducible refine gate_callee (f:=65) rfl ?_);refine goesL_ (some 7) rfl rfl Try.func65 (by kernel_rfl) rfl #[.slice A0 l0.length c0,.string a1] rfl (by (try simp only [List.map_toArray,List.map_cons,List.map_nil]);first|done|rfl|(simp only [List.length_drop,List.length_take];rfl)) ?_;(with_reducible refine (slices_Index_string_string.calls k _ _ l0 a1 t351 _ ?side1 ?side2 A3.out).mono ?_);(case side1=>repeat (first|exact HR0.out|(with_reducible refine cA_ ?_ _)|(with_reducible refine cN_ ?_ _)|(with_reducible refine cD_ ?_)));(case side2=>exact HC0.out);rintro e w' ⟨rfl,⟨nd,rfl⟩⟩;refine ⟨_,rfl,?_⟩))
 go_ret
 exact ⟨by first|rfl|(simp;done)|(simp [*];done),by repeat (first|exact Drawn0.refl _|apply Drawn0.step)⟩
end Go.Proofs.Ytoihiehoolehiaa.PX
namespace Go.Proofs.Ytoihiehoolehiaa.PX
open Go.RowKit Go.Proofs.YtoihiehoolehiaaW.PrintWords Go.Proofs.YtoihiehoolehiaaW.PrintLast Go.Proofs.YtoihiehoolehiaaW.PrintMore
attribute [local go_sem] max2_int min2_int max_two min_two max_three min_three max_four min_four   
set_option linter.unusedVariables false
set_option linter.unusedSimpArgs false
def names_Has.f (k:Nat) (a0_0:Bool) (l0_1:List ByteArray) (a1:ByteArray):Option (Bool):=(slices_Contains_string_string.f k l0_1 a1).bind fun t353=>(some (t353 != a0_0))
theorem names_Has.mono:∀ a0 a1 a2 k,LeO (names_Has.f k a0 a1 a2) (names_Has.f (k+1) a0 a1 a2):=by
 intro a0 a1 a2 k
 unfold names_Has.f
 repeat' first
   | (with_reducible exact slices_Contains_string_string.mono _ _ _)
   | (with_reducible exact LeO.refl _)
   | (with_reducible exact LeO.none _)
   | (with_reducible refine LeO.ite ?_ ?_)
   | (with_reducible refine LeO.bind ?_ (fun _=>?_))
   | exact slices_Contains_string_string.mono _ _ _
   | exact LeO.none _
   | refine LeO.ite ?_ ?_
   | refine LeO.bind ?_ (fun _=>?_)
set_option maxHeartbeats 8000000 in
set_option maxRecDepth 100000 in
theorem names_Has.calls (k:Nat) (a0_0:Bool) (A0_1:Option Addr) (c0_1:Nat) (l0_1:List ByteArray) (a1:ByteArray) (r:Bool) (w:World) (hr0_1:Kd.C Kd.string w A0_1 l0_1.length l0_1) (hc0_1:l0_1.length≤c0_1) (h:names_Has.f k a0_0 l0_1 a1=some r) :
  Calls Try.prog 41 #[.agg #[.bool a0_0,.slice A0_1 l0_1.length c0_1],.string a1] w fun e w'=>e=.returned (.bool r)∧Below w.heap.size w w':=by
 have hu38:=Try.underlying38
 have HR0_1:=Aside0.mk hr0_1
 have HC0_1:=Aside0.mk hc0_1
 clear hr0_1 hc0_1
 have HB:=Aside0.mk (Below.refl w.heap.size w)
 have H:((slices_Contains_string_string.f k l0_1 a1).bind fun t353=>(some (t353 != a0_0)))=some r:=h
 clear h
 replace H:=Option.bind_eq_some_iff.mp H
 obtain ⟨t353,A30,H⟩:=H
 replace H:(some (t353 != a0_0))=some r:=H
 have A3:=Aside0.mk A30
 clear A30
 obtain rfl:=Option.some.inj H
 go_enter Try.func41,Try.ntmps41
 go_wp2_with (first|((with_reducible refine gate_dst (N:=2) rfl ?_);refine box_event ?hg (N:=2) ?hd (cs:=#[.bool a0_0,.slice A0_1 l0_1.length c0_1]) (t:=38) ?hr ?_;(case hd=>rfl);(case hg=>rfl);(case hr=>first|(go_simp;done)|(go_simp;rfl));intro gb352 hg w4 hbox hb;have n0_:=Aside0.mk (below_step (by repeat (first|(with_reducible first|exact HB.out|apply bA_|apply bN_|apply bD_)|exact HB.out)) hb);have n1_:=Aside0.mk (hbox);have n2_:=Aside0.mk ((by rw [hg];exact (below_size (by repeat (first|(with_reducible first|exact HB.out|apply bA_|apply bN_|apply bD_)|exact HB.out))):w.heap.size≤gb352));have n3_:=Aside0.mk ((by rw [hg];exact (below_size (by repeat (first|(with_reducible first|exact HB.out|apply bA_|apply bN_|apply bD_)|exact HB.out))):w.heap.size≤gb352));clear HB;have HB:=n0_;have BK352:=n1_;have GW352:=n2_;have GE352:=n3_;clear n0_ n1_ n2_ n3_;clear hb hbox hg;have hcz5_0:w4.cell? ⟨gb352,0,none⟩=some (.bool a0_0):=(blk_cell BK352.out 0).trans rfl;have hcz5_1:w4.cell? ⟨gb352,1,none⟩=some (.slice A0_1 l0_1.length c0_1):=(blk_cell BK352.out 1).trans rfl;have hfz5_0:=blk_frozen BK352.out 0;have hfz5_1:=blk_frozen BK352.out 1)|(go_at_call 59;(with_reducible refine (slices_Contains_string_string.calls k _ _ l0_1 a1 t353 _ ?side1 ?side2 A3.out).mono ?_);(case side1=>repeat (first|exact (Kd.C_below HR0_1.out HB.out)|(with_reducible refine cA_ ?_ _)|(with_reducible refine cN_ ?_ _)|(with_reducible refine cD_ ?_)));(case side2=>exact HC0_1.out);rintro e w' ⟨rfl,⟨nd,rfl⟩⟩;(try first|exact ⟨rfl,_,World.drewN_drewN _ _ _⟩|exact ⟨rfl,_,Eq.trans (World.drewN_drewN _ _ _) (congrArg (World.drewN _) (Nat.add_assoc _ _ _))⟩)))
 repeat (go_quiet (first|((with_reducible refine gate_dst (N:=2) rfl ?_);refine box_event ?hg (N:=2) ?hd (cs:=#[.bool a0_0,.slice A0_1 l0_1.length c0_1]) (t:=38) ?hr ?_;(case hd=>rfl);(case hg=>rfl);(case hr=>first|(go_simp;done)|(go_simp;rfl));intro gb352 hg w4 hbox hb;have n0_:=Aside0.mk (below_step (by repeat (first|(with_reducible first|exact HB.out|apply bA_|apply bN_|apply bD_)|exact HB.out)) hb);have n1_:=Aside0.mk (hbox);have n2_:=Aside0.mk ((by rw [hg];exact (below_size (by repeat (first|(with_reducible first|exact HB.out|apply bA_|apply bN_|apply bD_)|exact HB.out))):w.heap.size≤gb352));have n3_:=Aside0.mk ((by rw [hg];exact (below_size (by repeat (first|(with_reducible first|exact HB.out|apply bA_|apply bN_|apply bD_)|exact HB.out))):w.heap.size≤gb352));clear HB;have HB:=n0_;have BK352:=n1_;have GW352:=n2_;have GE352:=n3_;clear n0_ n1_ n2_ n3_;clear hb hbox hg;have hcz5_0:w4.cell? ⟨gb352,0,none⟩=some (.bool a0_0):=(blk_cell BK352.out 0).trans rfl;have hcz5_1:w4.cell? ⟨gb352,1,none⟩=some (.slice A0_1 l0_1.length c0_1):=(blk_cell BK352.out 1).trans rfl;have hfz5_0:=blk_frozen BK352.out 0;have hfz5_1:=blk_frozen BK352.out 1)|(go_at_call 59;(with_reducible refine (slices_Contains_string_string.calls k _ _ l0_1 a1 t353 _ ?side1 ?side2 A3.out).mono ?_);(case side1=>repeat (first|exact (Kd.C_below HR0_1.out HB.out)|(with_reducible refine cA_ ?_ _)|(with_reducible refine cN_ ?_ _)|(with_reducible refine cD_ ?_)));(case side2=>exact HC0_1.out);rintro e w' ⟨rfl,⟨nd,rfl⟩⟩;(try first|exact ⟨rfl,_,World.drewN_drewN _ _ _⟩|exact ⟨rfl,_,Eq.trans (World.drewN_drewN _ _ _) (congrArg (World.drewN _) (Nat.add_assoc _ _ _))⟩)));try go_wp2_with (first|((with_reducible refine gate_dst (N:=2) rfl ?_);refine box_event ?hg (N:=2) ?hd (cs:=#[.bool a0_0,.slice A0_1 l0_1.length c0_1]) (t:=38) ?hr ?_;(case hd=>rfl);(case hg=>rfl);(case hr=>first|(go_simp;done)|(go_simp;rfl));intro gb352 hg w4 hbox hb;have n0_:=Aside0.mk (below_step (by repeat (first|(with_reducible first|exact HB.out|apply bA_|apply bN_|apply bD_)|exact HB.out)) hb);have n1_:=Aside0.mk (hbox);have n2_:=Aside0.mk ((by rw [hg];exact (below_size (by repeat (first|(with_reducible first|exact HB.out|apply bA_|apply bN_|apply bD_)|exact HB.out))):w.heap.size≤gb352));have n3_:=Aside0.mk ((by rw [hg];exact (below_size (by repeat (first|(with_reducible first|exact HB.out|apply bA_|apply bN_|apply bD_)|exact HB.out))):w.heap.size≤gb352));clear HB;have HB:=n0_;have BK352:=n1_;have GW352:=n2_;have GE352:=n3_;clear n0_ n1_ n2_ n3_;clear hb hbox hg;have hcz5_0:w4.cell? ⟨gb352,0,none⟩=some (.bool a0_0):=(blk_cell BK352.out 0).trans rfl;have hcz5_1:w4.cell? ⟨gb352,1,none⟩=some (.slice A0_1 l0_1.length c0_1):=(blk_cell BK352.out 1).trans rfl;have hfz5_0:=blk_frozen BK352.out 0;have hfz5_1:=blk_frozen BK352.out 1)|(go_at_call 59;(with_reducible refine (slices_Contains_string_string.calls k _ _ l0_1 a1 t353 _ ?side1 ?side2 A3.out).mono ?_);(case side1=>repeat (first|exact (Kd.C_below HR0_1.out HB.out)|(with_reducible refine cA_ ?_ _)|(with_reducible refine cN_ ?_ _)|(with_reducible refine cD_ ?_)));(case side2=>exact HC0_1.out);rintro e w' ⟨rfl,⟨nd,rfl⟩⟩;(try first|exact ⟨rfl,_,World.drewN_drewN _ _ _⟩|exact ⟨rfl,_,Eq.trans (World.drewN_drewN _ _ _) (congrArg (World.drewN _) (Nat.add_assoc _ _ _))⟩))))
 go_ret
 exact ⟨by first|rfl|(simp [errW_none,errW_some] <;> rfl)|(simp [*,errW_none,errW_some] <;> rfl),by repeat (first|(with_reducible first|exact HB.out|apply bA_|apply bN_|apply bD_|refine below_set ?_ GE352.out)|exact HB.out)⟩
end Go.Proofs.Ytoihiehoolehiaa.PX
set_option linter.unusedVariables false
set_option linter.unusedSimpArgs false
namespace Go.Proofs.Ytoihiehoolehiaa.PX
open Go.RowKit Go.Proofs.YtoihiehoolehiaaW.PrintWords Go.Proofs.YtoihiehoolehiaaW.PrintLast Go.Proofs.YtoihiehoolehiaaW.PrintMore Go.Proofs.Ytoihiehoolehiaa
def hasL (l:List ByteArray) (a:ByteArray):Bool:=l.any fun y=>decide (y=a)
theorem index_ev (l:List ByteArray) (a:ByteArray) (hl:l.length≤1000000000000):∀ d i:Nat,l.length - i≤d→i≤l.length→∃ r:Int,Ev (fun k=>slices_Index_string_string.l0 k l a (l.length:Int) (i:Int)) r∧decide (r ≥ 0)=hasL (l.drop i) a
 | d,i,hd,hi=>by
  by_cases h:i < l.length
  ·have e:∀ k,slices_Index_string_string.l0 (k+1) l a (l.length:Int) (i:Int)=if l[i]=a then some (i:Int) else slices_Index_string_string.l0 k l a (l.length:Int) ((i+1:Nat):Int):=by
    intro k
    simp only [slices_Index_string_string.l0]
    rw [if_pos (by omega),if_pos (by omega),if_pos (by omega),rdOf_nat h,wrap_succ (by omega)]
    by_cases ha:l[i]=a
    ·rw [if_pos (by rw [ha]),if_pos ha]
    ·rw [if_neg (fun x=>ha (tl_inj (by rw [toList_tl,toList_tl] at x;exact x.symm))),if_neg ha]
   have hdrop:l.drop i=l[i] :: l.drop (i+1):=List.drop_eq_getElem_cons h
   by_cases ha:l[i]=a
   ·refine ⟨(i:Int),Ev.step (fun k=>(e k).trans (if_pos ha)) (Ev.now _),?_⟩
    rw [hdrop]
    simp [hasL,ha]
   ·cases d with
    | zero=>omega
    | succ d =>
     obtain ⟨r,h1,h2⟩:=index_ev l a hl d (i+1) (by omega) (by omega)
     refine ⟨r,Ev.step (fun k=>(e k).trans (if_neg ha)) h1,?_⟩
     rw [h2,hdrop,hasL,hasL,List.any_cons,decide_eq_false ha,Bool.false_or]
  ·refine ⟨-1,Ev.step (f:=fun _=>some (-1)) (fun k=>?_) (Ev.now _),?_⟩
   ·simp only [slices_Index_string_string.l0]
    rw [if_neg (by omega)]
   ·rw [List.drop_of_length_le (by omega)]
    rfl
theorem has_ev (b:Bool) (l:List ByteArray) (a:ByteArray) (hl:l.length≤1000000000000):Ev (fun k=>names_Has.f k b l a) (hasL l a != b):=by
 obtain ⟨r,h1,h2⟩:=index_ev l a hl _ 0 (Nat.le_refl _) (Nat.zero_le _)
 obtain ⟨K,h1⟩:=h1
 refine ⟨K,fun k hk=>?_⟩
 have h1:slices_Index_string_string.l0 k l a (l.length:Int) 0=some r:=h1 k hk
 simp only [names_Has.f,slices_Contains_string_string.f,slices_Index_string_string.f]
 rw [h1]
 simp only [Option.bind_some]
 rw [h2]
 rfl
end Go.Proofs.Ytoihiehoolehiaa.PX
set_option linter.unusedVariables false
set_option linter.unusedSimpArgs false
namespace Go.Proofs.Ytoihiehoolehiaa.PX
open Go.RowKit Go.Proofs.YtoihiehoolehiaaW.PrintWords Go.Proofs.YtoihiehoolehiaaW.PrintLast Go.Proofs.YtoihiehoolehiaaW.PrintMore Go.Proofs.Ytoihiehoolehiaa Go.Shelf
abbrev Sc:=List S33
def hasS (x:S38) (a:ByteArray):Bool:=hasL x.f1 a != x.f0
def ScOk (s:Sc):Prop:=s.length≤1000000000000∧∀ d ∈ s,d.f0.length≤1000000000000∧∀ f ∈ d.f0,f.f0.f1.length≤1000000000000
instance (s:Sc):Decidable (ScOk s):=by unfold ScOk;exact inferInstance
def toN (l:List S40) (a:ByteArray):Int:=(l.find? fun f=>hasS f.f0 a).elim (-1) (·.f1)
def toM (s:Sc) (d:Int) (a:ByteArray):Int:=if d < 0∨(s.length:Int)≤d then -1 else toN (rd_T33 s d).f0 a
theorem toN_idx (l:List S40) (a:ByteArray):(∃ (i:Nat) (h:i < l.length),idxN (fun i=>(l[i]?).elim false fun f=>hasS f.f0 a) l.length=(i:Int)∧toN l a=(l[i]).f1)∨(idxN (fun i=>(l[i]?).elim false fun f=>hasS f.f0 a) l.length = -1∧toN l a = -1):=by
 rcases idxN_cases (fun i=>(l[i]?).elim false fun f=>hasS f.f0 a) l.length with ⟨i,h1,h2,h3,h4⟩|⟨h1,h2⟩
 ·refine .inl ⟨i,h1,h4,?_⟩
  have e:l.find? (fun f=>hasS f.f0 a)=some l[i]:=by
   rw [List.find?_eq_some_iff_getElem]
   refine ⟨by simpa [h1] using h2,i,h1,rfl,fun j hj=>?_⟩
   have:=h3 j hj
   rw [List.getElem?_eq_getElem (by omega)] at this
   simpa using this
  rw [toN,e]
  rfl
 ·refine .inr ⟨h2,?_⟩
  have e:l.find? (fun f=>hasS f.f0 a)=none:=by
   rw [List.find?_eq_none]
   intro x hx
   obtain ⟨j,hj,rfl⟩:=List.mem_iff_getElem.1 hx
   have:=h1 j hj
   rw [List.getElem?_eq_getElem hj] at this
   simpa using this
  rw [toN,e]
  rfl
set_option maxHeartbeats 4000000 in
set_option maxRecDepth 100000 in
theorem to_pred (a:ByteArray) (B:Nat) (f:S40) (W:World) (A1:Option Addr) (c1:Nat) (hB:W.cell? ⟨B,0,none⟩=some (.string a)) (hC:Kd.C Kd.string W A1 f.f0.f1.length f.f0.f1) (hc:f.f0.f1.length≤c1) (hl:f.f0.f1.length≤1000000000000) :
  Calls Try.prog 40 #[.agg #[.bool f.f0.f0,.slice A1 f.f0.f1.length c1,.int .i64 f.f1,.bool f.f2],.pointer (some ⟨B,0,none⟩)] W fun e w'=>e=.returned (.bool (hasS f.f0 a))∧Below W.heap.size W w':=by
 obtain ⟨k,hk⟩:=Ev.both (has_ev f.f0.f0 f.f0.f1 a hl)
 change names_Has.f k f.f0.f0 f.f0.f1 a=some (hasS f.f0 a) at hk
 have hu:=Try.underlying40
 have hu2:=Try.underlying38
 have hBl:=World.block_lt_of_cell? W _ hB
 have hB1:(W.alloc (.cells #[.bool f.f0.f0,.slice A1 f.f0.f1.length c1,.int .i64 f.f1,.bool f.f2] 40)).cell? ⟨B,0,none⟩=some (.string a):=Lib.cell?_alloc_some _ hB
 have hcall:=names_Has.calls k f.f0.f0 A1 c1 f.f0.f1 a _ (W.alloc (.cells #[.bool f.f0.f0,.slice A1 f.f0.f1.length c1,.int .i64 f.f1,.bool f.f2] 40)) (Kd.C_alloc hC _) hc hk
 clear hk hC
 generalize hasS f.f0 a=r at hcall ⊢
 generalize f.f0.f0=y0 at hB1 hcall ⊢
 generalize f.f0.f1.length=m at hB1 hcall ⊢
 generalize f.f1=y1 at hB1 hcall ⊢
 generalize f.f2=y2 at hB1 hcall ⊢
 clear hc hl hB
 go_enter Try.func40,Try.ntmps40
 go_wp2_with (go_at_call 41;refine hcall.mono ?_;rintro e w' ⟨rfl,hb'⟩)
 go_ret
 exact ⟨rfl,below_then (below_alloc (Below.refl _ _) _) (by simp) hb'⟩
def schema_To.f (l0:Sc) (a1:Int) (a2:ByteArray):Option Int:=if ScOk l0 then some (toM l0 a1 a2) else none
theorem rdD_mem {s:Sc} {d:Int} (h0:0≤d) (h1:d < s.length):rd_T33 s d ∈ s:=by
 have h:d.toNat < s.length:=by omega
 rw [show rd_T33 s d=s[d.toNat] by simp [rd_T33,List.getD_eq_getElem?_getD,h]]
 exact List.getElem_mem h
theorem rdF_nat {l:List S40} {i:Nat} (h:i < l.length):rd_T40 l (i:Int)=l[i]:=by simp [rd_T40,List.getD_eq_getElem?_getD,h]
set_option maxHeartbeats 8000000 in
set_option maxRecDepth 100000 in
theorem schema_To.calls (A0:Option Addr) (c0:Nat) (l0:List S33) (a1:Int) (a2:ByteArray) (r:Int) (w:World) (hr0:Kd.C k33 w A0 l0.length l0) (hc0:l0.length≤c0) (h:schema_To.f l0 a1 a2=some r) :
  Calls Try.prog 20 #[.slice A0 l0.length c0,.int .i64 a1,.string a2] w fun e w'=>e=.returned (.int .i64 r)∧Below w.heap.size w w':=by
 unfold schema_To.f at h
 split at h
 case isFalse=>cases h
 rename_i hok
 obtain rfl:=Option.some.inj h
 clear h
 have hu:=Try.underlying33
 have hu2:=Try.underlying40
 by_cases h1:a1 < 0
 ·rw [toM,if_pos (.inl h1)]
  clear hr0 hok hc0
  generalize l0.length=n
  go_enter Try.func20,Try.ntmps20
  go_wp2
  go_ret
  exact ⟨rfl,below_alloc (Below.refl _ _) _⟩
 by_cases h2:a1 < (l0.length:Int)
 ·rw [toM,if_neg (by omega)]
  have hm:=rdD_mem (by omega) h2
  obtain ⟨hs1,hs2⟩:=hok
  obtain ⟨hf1,hf2⟩:=hs2 _ hm
  clear hs2 hm hc0
  obtain ⟨ad,A1,c1,rfl,hx0,_,_,hx3,hx4⟩:=at_T33 hr0 a1 (by omega) h2
  clear hr0
  generalize (rd_T33 l0 a1).f0=fs at hx0 hx3 hx4 hf1 hf2 ⊢
  generalize l0.length=n at h2 hs1 ⊢
  have eg:∀ args w,(callFunc 40 args).run Try.prog w=.ok (.enter 40 args) w:=enters_of Try.func40 (by kernel_rfl) rfl
  have hcon:=firstF 40 #[.pointer (some ⟨w.heap.size,0,none⟩)] eg A1 c1 fs (fun i=>(fs[i]?).elim false fun f=>hasS f.f0 a2) (w.alloc (.cells #[.string a2] 9)) (Kd.C_alloc hx4 _) hf1
   (fun i hi W B1 c2 hW hC hc=>by
    have hb0:(w.alloc (.cells #[.string a2] 9)).cell? ⟨w.heap.size,0,none⟩=some (.string a2):=by simp
    have hb:W.cell? ⟨w.heap.size,0,none⟩=some (.string a2):=(hW.cell (World.block_lt_of_cell? _ _ hb0)).trans hb0
    have:=to_pred a2 w.heap.size (fs[i]) W B1 c2 hb (Kd.C_below hC hW) hc (hf2 _ (List.getElem_mem hi))
    rw [List.getElem?_eq_getElem hi]
    exact this)
  have hx0':(w.alloc (.cells #[.string a2] 9)).cell? (ad.add (a1.toNat * 3))=_:=Lib.cell?_alloc_some _ hx0
  rcases toN_idx fs a2 with ⟨i,hi,e1,e2⟩|⟨e1,e2⟩
  ·rw [e1] at hcon
   rw [e2]
   obtain ⟨ad2,A3,c3,rfl,_,_,hy2,_,_,_⟩:=at_T40 hx4 (i:Int) (by omega) (by exact_mod_cast hi)
   rw [rdF_nat hi,Int.toNat_natCast] at hy2
   clear hx4 hx3 hf2 hx0 e1 e2
   generalize (fs[i]).f1=y at hy2 ⊢
   have hi':(i:Int) < (fs.length:Int):=by exact_mod_cast hi
   clear hi
   generalize fs.length=m at hx0' hcon hf1 hi'
   have HB:∀ w',Below (w.alloc (.cells #[.string a2] 9)).heap.size (w.alloc (.cells #[.string a2] 9)) w'→w'.cell? ⟨(ad2.add (i * 4)).block,(ad2.add (i * 4)).off+2,none⟩=some (.int .i64 y):=fun w' hb=>by
    have:=Lib.cell?_alloc_some (.cells #[.string a2] 9) hy2
    exact (hb.cell (World.block_lt_of_cell? _ _ this)).trans this
   have HB':=Aside0.mk HB
   clear HB hy2
   go_enter Try.func20,Try.ntmps20
   go_wp2_with (go_at_call 39;refine hcon.mono ?_;rintro e w' ⟨rfl,hb'⟩;have hy:=HB'.out w' hb')
   go_ret
   exact ⟨rfl,below_then (below_alloc (Below.refl _ _) _) (by simp) hb'⟩
  ·rw [e1] at hcon
   rw [e2]
   clear hx4 hx3 hf2 hx0 e1 e2
   generalize fs.length=m at hx0' hcon hf1
   go_enter Try.func20,Try.ntmps20
   go_wp2_with (go_at_call 39;refine hcon.mono ?_;rintro e w' ⟨rfl,hb'⟩)
   go_ret
   exact ⟨rfl,below_then (below_alloc (Below.refl _ _) _) (by simp) hb'⟩
 ·rw [toM,if_pos (.inr (by omega))]
  clear hr0 hok hc0
  generalize l0.length=n at h2 ⊢
  go_enter Try.func20,Try.ntmps20
  go_wp2
  go_ret
  exact ⟨rfl,below_alloc (Below.refl _ _) _⟩
end Go.Proofs.Ytoihiehoolehiaa.PX
set_option linter.unusedVariables false
set_option linter.unusedSimpArgs false
namespace Go.Proofs.Ytoihiehoolehiaa.PX
open Go.RowKit Go.Proofs.YtoihiehoolehiaaW.PrintWords Go.Proofs.YtoihiehoolehiaaW.PrintLast Go.Proofs.YtoihiehoolehiaaW.PrintMore Go.Proofs.Ytoihiehoolehiaa Go.Shelf
theorem anyN_list {α:Type} (l:List α) (q:α→Bool):anyN (fun i=>(l[i]?).elim false q) l.length=l.any q:=by
 rw [anyN_eq,Bool.eq_iff_iff,List.any_eq_true,List.any_eq_true]
 constructor
 ·rintro ⟨i,hi,h⟩
  have hi:=List.mem_range.1 hi
  rw [List.getElem?_eq_getElem hi] at h
  exact ⟨l[i],List.getElem_mem hi,h⟩
 ·rintro ⟨x,hx,h⟩
  obtain ⟨i,hi,rfl⟩:=List.mem_iff_getElem.1 hx
  exact ⟨i,List.mem_range.2 hi,by rw [List.getElem?_eq_getElem hi];exact h⟩
theorem cell_new (w:World) (o:Array Value) (t:TypeId) (B i:Nat) {v:Value} (hB:B=w.heap.size) (hv:o[i]? = some v):(w.alloc (.cells o t)).cell? ⟨B,i,none⟩=some v:=by
 subst hB
 rw [← hv]
 simp
def hasT (t:Tr) (n:ByteArray):Bool:=t.any fun x=>decide (x.f0=n)
def lacksM (t:Tr) (f:S40):Bool:=f.f2 && f.f0.f1.any fun n=>!hasT t n
set_option maxHeartbeats 4000000 in
set_option maxRecDepth 100000 in
theorem edge_pred (n:ByteArray) (B:Nat) (y:ByteArray) (A1:Option Addr) (m c1:Nat) (W:World) (hB:W.cell? ⟨B,0,none⟩=some (.string n)) :
  Calls Try.prog 54 #[.agg #[.string y,.slice A1 m c1],.pointer (some ⟨B,0,none⟩)] W fun e w'=>e=.returned (.bool (decide (y=n)))∧Below W.heap.size W w':=by
 have hu:=Try.underlying53
 have hB1:(W.alloc (.cells #[.string y,.slice A1 m c1] 53)).cell? ⟨B,0,none⟩=some (.string n):=Lib.cell?_alloc_some _ hB
 have hr:=Aside0.mk (same_eq y n)
 generalize decide (y=n)=r at hr ⊢
 have hBl:=World.block_lt_of_cell? W _ hB
 clear hB
 go_enter Try.func54,Try.ntmps54
 go_wp2
 go_ret
 refine ⟨?_,below_alloc (Below.refl _ _) _⟩
 rw [← hr.out]
 rfl
set_option maxHeartbeats 4000000 in
set_option maxRecDepth 100000 in
theorem there_pred (n:ByteArray) (B:Nat) (A:Option Addr) (c:Nat) (t:Tr) (W:World) (hB:W.cell? ⟨B,0,none⟩=some (.slice A t.length c)) (hC:Kd.C k53 W A t.length t) (hl:t.length≤1000000000000) :
  Calls Try.prog 53 #[.string n,.pointer (some ⟨B,0,none⟩)] W fun e w'=>e=.returned (.bool (hasT t n))∧Below W.heap.size W w':=by
 have eg:∀ args w,(callFunc 54 args).run Try.prog w=.ok (.enter 54 args) w:=enters_of Try.func54 (by kernel_rfl) rfl
 have hB1:(W.alloc (.cells #[.string n] 9)).cell? ⟨B,0,none⟩=_:=Lib.cell?_alloc_some _ hB
 have hcon:=anyE 54 #[.pointer (some ⟨W.heap.size,0,none⟩)] eg A c t (fun i=>(t[i]?).elim false fun x=>decide (x.f0=n)) (W.alloc (.cells #[.string n] 9)) (Kd.C_alloc hC _) hl
  (fun i hi W' B1 c2 hW hC hc=>by
   have hb0:(W.alloc (.cells #[.string n] 9)).cell? ⟨W.heap.size,0,none⟩=some (.string n):=by simp
   have hb:=(hW.cell (World.block_lt_of_cell? _ _ hb0)).trans hb0
   have:=edge_pred n W.heap.size (t[i]).f0 B1 (t[i]).f1.length c2 W' hb
   rw [List.getElem?_eq_getElem hi]
   exact this)
 rw [anyN_list] at hcon
 change Calls _ _ _ _ (fun e w'=>e=.returned (.bool (hasT t n))∧_) at hcon
 have hBl:=World.block_lt_of_cell? W _ hB
 clear hB hC
 generalize hasT t n=r at hcon ⊢
 generalize t.length=m at hB1 hcon hl
 go_enter Try.func53,Try.ntmps53
 go_wp2_with (go_at_call 36;refine hcon.mono ?_;rintro e w' ⟨rfl,hb'⟩)
 go_ret
 exact ⟨rfl,below_then (below_alloc (Below.refl _ _) _) (by simp) hb'⟩
set_option maxHeartbeats 4000000 in
set_option maxRecDepth 100000 in
theorem nowhere_pred (n:ByteArray) (B B2:Nat) (A:Option Addr) (c:Nat) (t:Tr) (W:World) (hB:W.cell? ⟨B,0,none⟩=some (.slice A t.length c)) (hB2:W.cell? ⟨B2,0,none⟩=some (.func (.func 53) #[] #[.pointer (some ⟨B,0,none⟩)])) (hC:Kd.C k53 W A t.length t) (hl:t.length≤1000000000000) :
  Calls Try.prog 56 #[.string n,.pointer (some ⟨B2,0,none⟩)] W fun e w'=>e=.returned (.bool (!hasT t n))∧Below W.heap.size W w':=by
 have hcon:=there_pred n B A c t W hB hC hl
 generalize hasT t n=r at hcon ⊢
 clear hB hC hl
 go_enter Try.func56,Try.ntmps56
 go_wp2_with (go_at_call 53;refine hcon.mono ?_;rintro e w' ⟨rfl,hb'⟩)
 go_ret
 exact ⟨rfl,hb'⟩
set_option maxHeartbeats 4000000 in
set_option maxRecDepth 100000 in
theorem lacks_calls (A0:Option Addr) (c0:Nat) (t:Tr) (f:S40) (A1:Option Addr) (c1:Nat) (w:World) (hT:Kd.C k53 w A0 t.length t) (hC:Kd.C Kd.string w A1 f.f0.f1.length f.f0.f1) (hc:f.f0.f1.length≤c1) (hl:t.length≤1000000000000) (hf:f.f0.f1.length≤1000000000000) :
  Calls Try.prog 33 #[.slice A0 t.length c0,.agg #[.bool f.f0.f0,.slice A1 f.f0.f1.length c1,.int .i64 f.f1,.bool f.f2]] w fun e w'=>e=.returned (.bool (lacksM t f))∧Below w.heap.size w w':=by
 have eg:∀ args w,(callFunc 56 args).run Try.prog w=.ok (.enter 56 args) w:=enters_of Try.func56 (by kernel_rfl) rfl
 have hcon:∀ W,Below w.heap.size w W→W.cell? ⟨w.heap.size,0,none⟩=some (.slice A0 t.length c0)→W.cell? ⟨w.heap.size+1+1,0,none⟩=some (.func (.func 53) #[] #[.pointer (some ⟨w.heap.size,0,none⟩)])→Calls Try.prog 55 #[.slice A1 f.f0.f1.length c1,.func (.func 56) #[] #[.pointer (some ⟨w.heap.size+1+1,0,none⟩)]] W fun e w'=>e=.returned (.bool (f.f0.f1.any fun n=>!hasT t n))∧Below W.heap.size W w':=fun W hW hb1 hb2=>by
  have:=anyS 56 #[.pointer (some ⟨w.heap.size+1+1,0,none⟩)] eg A1 c1 f.f0.f1 (fun i=>(f.f0.f1[i]?).elim false fun n=>!hasT t n) W (Kd.C_below hC hW) hf
   (fun i hi W' hW'=>by
    have h1:=(hW'.cell (World.block_lt_of_cell? _ _ hb1)).trans hb1
    have h2:=(hW'.cell (World.block_lt_of_cell? _ _ hb2)).trans hb2
    have:=nowhere_pred (f.f0.f1[i]) w.heap.size (w.heap.size+1+1) A0 c0 t W' h1 h2 (Kd.C_below (Kd.C_below hT hW) hW') hl
    rw [List.getElem?_eq_getElem hi]
    exact this)
  rw [anyN_list] at this
  exact this
 unfold lacksM
 generalize (f.f0.f1.any fun n=>!hasT t n)=r at hcon ⊢
 have HCON:=Aside0.mk hcon
 clear hcon hT hC
 have hu:=Try.underlying40
 have hu2:=Try.underlying38
 generalize f.f0.f0=y0 at *
 generalize f.f0.f1.length=m at *
 generalize f.f1=y1 at *
 generalize t.length=n at *
 cases hy:f.f2 with
 | false =>
  go_enter Try.func33,Try.ntmps33
  go_wp2
  go_ret
  exact ⟨rfl,below_alloc (below_alloc (below_alloc (Below.refl _ _) _) _) _⟩
 | true =>
  go_enter Try.func33,Try.ntmps33
  go_wp2_with (go_at_call 55;go_loud (refine (HCON.out _ ?s1 ?s2 ?s3).mono ?_;(case s1=>exact below_alloc (below_alloc (below_alloc (Below.refl _ _) _) _) _);(case s2=>exact Lib.cell?_alloc_some _ (Lib.cell?_alloc_some _ (cell_new _ _ _ _ _ rfl rfl)));(case s3=>exact cell_new _ _ _ _ _ (by simp) rfl);rintro e w' ⟨rfl,hb'⟩))
  go_ret
  exact ⟨rfl,below_then (below_alloc (below_alloc (below_alloc (Below.refl _ _) _) _) _) (by simp;omega) hb'⟩
end Go.Proofs.Ytoihiehoolehiaa.PX
set_option linter.unusedVariables false
set_option linter.unusedSimpArgs false
namespace Go.Proofs.Ytoihiehoolehiaa.PX
open Go.RowKit Go.Proofs.YtoihiehoolehiaaW.PrintWords Go.Proofs.YtoihiehoolehiaaW.PrintLast Go.Proofs.YtoihiehoolehiaaW.PrintMore Go.Proofs.Ytoihiehoolehiaa Go.Shelf
def levelM (s:Sc) (d:Int) (t:Tr):Bool :=
 if d < 0∨(s.length:Int)≤d then false
 else if ((rd_T33 s d).f1 && !decide (t.length=1)) || ((rd_T33 s d).f2 && decide (t.length=0)) then false
 else !((rd_T33 s d).f0.any (lacksM t)) && !(t.any fun x=>decide (toM s d x.f0 < 0))
set_option maxHeartbeats 4000000 in
set_option maxRecDepth 100000 in
theorem lacks_pred (B:Nat) (A0:Option Addr) (c0:Nat) (t:Tr) (f:S40) (A1:Option Addr) (c1:Nat) (w:World) (hB:w.cell? ⟨B,0,none⟩=some (.slice A0 t.length c0)) (hT:Kd.C k53 w A0 t.length t) (hC:Kd.C Kd.string w A1 f.f0.f1.length f.f0.f1) (hc:f.f0.f1.length≤c1) (hl:t.length≤1000000000000) (hf:f.f0.f1.length≤1000000000000) :
  Calls Try.prog 32 #[.agg #[.bool f.f0.f0,.slice A1 f.f0.f1.length c1,.int .i64 f.f1,.bool f.f2],.pointer (some ⟨B,0,none⟩)] w fun e w'=>e=.returned (.bool (lacksM t f))∧Below w.heap.size w w':=by
 have hcon:=lacks_calls A0 c0 t f A1 c1 (w.alloc (.cells #[.bool f.f0.f0,.slice A1 f.f0.f1.length c1,.int .i64 f.f1,.bool f.f2] 40)) (Kd.C_alloc hT _) (Kd.C_alloc hC _) hc hl hf
 have hB1:(w.alloc (.cells #[.bool f.f0.f0,.slice A1 f.f0.f1.length c1,.int .i64 f.f1,.bool f.f2] 40)).cell? ⟨B,0,none⟩=_:=Lib.cell?_alloc_some _ hB
 clear hT hC hB
 generalize lacksM t f=r at hcon ⊢
 generalize f.f0.f0=y0 at *
 generalize f.f0.f1.length=m at *
 generalize f.f1=y1 at *
 generalize f.f2=y2 at *
 generalize t.length=n at *
 have hu:=Try.underlying40
 have hu2:=Try.underlying38
 go_enter Try.func32,Try.ntmps32
 go_wp2_with (go_at_call 33;refine hcon.mono ?_;rintro e w' ⟨rfl,hb'⟩)
 go_ret
 exact ⟨rfl,below_then (below_alloc (Below.refl _ _) _) (by simp) hb'⟩
set_option maxHeartbeats 4000000 in
set_option maxRecDepth 100000 in
theorem none_pred (B B2:Nat) (A0:Option Addr) (c0:Nat) (s:Sc) (d:Int) (x:S53) (A1:Option Addr) (c1:Nat) (w:World) (hB:w.cell? ⟨B,0,none⟩=some (.slice A0 s.length c0)) (hB2:w.cell? ⟨B2,0,none⟩=some (.int .i64 d)) (hS:Kd.C k33 w A0 s.length s) (hc:s.length≤c0) (hok:ScOk s) :
  Calls Try.prog 34 #[.agg #[.string x.f0,.slice A1 x.f1.length c1],.pointer (some ⟨B,0,none⟩),.pointer (some ⟨B2,0,none⟩)] w fun e w'=>e=.returned (.bool (decide (toM s d x.f0 < 0)))∧Below w.heap.size w w':=by
 have hcon:=schema_To.calls A0 c0 s d x.f0 (toM s d x.f0) (w.alloc (.cells #[.string x.f0,.slice A1 x.f1.length c1] 53)) (Kd.C_alloc hS _) hc (by unfold schema_To.f;rw [if_pos hok])
 have hB1:(w.alloc (.cells #[.string x.f0,.slice A1 x.f1.length c1] 53)).cell? ⟨B,0,none⟩=_:=Lib.cell?_alloc_some _ hB
 have hB3:(w.alloc (.cells #[.string x.f0,.slice A1 x.f1.length c1] 53)).cell? ⟨B2,0,none⟩=_:=Lib.cell?_alloc_some _ hB2
 clear hS hB hB2 hok
 generalize toM s d x.f0=r at hcon ⊢
 generalize x.f0=y0 at *
 generalize x.f1.length=m at *
 generalize s.length=n at *
 have hu:=Try.underlying53
 go_enter Try.func34,Try.ntmps34
 go_wp2_with (go_at_call 20;refine hcon.mono ?_;rintro e w' ⟨rfl,hb'⟩)
 go_ret
 exact ⟨rfl,below_then (below_alloc (Below.refl _ _) _) (by simp) hb'⟩
def schema_Level.f (l0:Sc) (a1:Int) (l2:Tr):Option Bool:=if ScOk l0∧l2.length≤1000000000000 then some (levelM l0 a1 l2) else none
set_option maxHeartbeats 16000000 in
set_option maxRecDepth 100000 in
theorem schema_Level.calls (A0:Option Addr) (c0:Nat) (l0:List S33) (a1:Int) (A2:Option Addr) (c2:Nat) (l2:List S53) (r:Bool) (w:World) (hr0:Kd.C k33 w A0 l0.length l0) (hc0:l0.length≤c0) (hr2:Kd.C k53 w A2 l2.length l2) (hc2:l2.length≤c2) (h:schema_Level.f l0 a1 l2=some r) :
  Calls Try.prog 16 #[.slice A0 l0.length c0,.int .i64 a1,.slice A2 l2.length c2] w fun e w'=>e=.returned (.bool r)∧Below w.heap.size w w':=by
 unfold schema_Level.f at h
 split at h
 case isFalse=>cases h
 rename_i hok
 obtain ⟨hok,hl⟩:=hok
 obtain rfl:=Option.some.inj h
 clear h
 have hu:=Try.underlying33
 have hu2:=Try.underlying40
 by_cases h1:a1 < 0
 ·rw [levelM,if_pos (.inl h1)]
  clear hr0 hok hc0 hr2 hl hc2
  generalize l0.length=n
  generalize l2.length=m
  go_enter Try.func16,Try.ntmps16
  go_wp2
  go_ret
  exact ⟨rfl,below_alloc (below_alloc (below_alloc (Below.refl _ _) _) _) _⟩
 by_cases h2:a1 < (l0.length:Int)
 ·rw [levelM,if_neg (by omega)]
  have hm:=rdD_mem (by omega) h2
  obtain ⟨hf1,hf2⟩:=hok.2 _ hm
  clear hm
  obtain ⟨ad,A1,c1,e0,hx0,hx1,hx2,hx3,hx4⟩:=at_T33 hr0 a1 (by omega) h2
  have eg:∀ args w,(callFunc 32 args).run Try.prog w=.ok (.enter 32 args) w:=enters_of Try.func32 (by kernel_rfl) rfl
  have eg2:∀ args w,(callFunc 34 args).run Try.prog w=.ok (.enter 34 args) w:=enters_of Try.func34 (by kernel_rfl) rfl
  generalize (rd_T33 l0 a1).f0=fs at hx0 hx3 hx4 hf1 hf2 ⊢
  generalize (rd_T33 l0 a1).f1=one at hx1 ⊢
  generalize (rd_T33 l0 a1).f2=som at hx2 ⊢
  have HL1:Aside0 (∀ W,Below w.heap.size w W→W.cell? ⟨w.heap.size+1+1,0,none⟩=some (.slice A2 l2.length c2)→Calls Try.prog 35 #[.slice A1 fs.length c1,.func (.func 32) #[] #[.pointer (some ⟨w.heap.size+1+1,0,none⟩)]] W fun e w'=>e=.returned (.bool (fs.any (lacksM l2)))∧Below W.heap.size W w'∧w'.cell? ⟨w.heap.size+1+1,0,none⟩=some (.slice A2 l2.length c2)):=⟨fun W hW hb=>by
   have:=anyF 32 #[.pointer (some ⟨w.heap.size+1+1,0,none⟩)] eg A1 c1 fs (fun i=>(fs[i]?).elim false (lacksM l2)) W (Kd.C_below hx4 hW) hf1
    (fun i hi W' B1 c3 hW' hC hc=>by
     have hb1:=(hW'.cell (World.block_lt_of_cell? _ _ hb)).trans hb
     have:=lacks_pred (w.heap.size+1+1) A2 c2 l2 (fs[i]) B1 c3 W' hb1 (Kd.C_below (Kd.C_below hr2 hW) hW') (Kd.C_below hC hW') hc hl (hf2 _ (List.getElem_mem hi))
     rw [List.getElem?_eq_getElem hi]
     exact this)
   rw [anyN_list] at this
   exact this.mono fun e w' h=>⟨h.1,h.2,(h.2.cell (World.block_lt_of_cell? _ _ hb)).trans hb⟩⟩
  have HL2:Aside0 (∀ W W',Below w.heap.size w W→W.cell? ⟨w.heap.size,0,none⟩=some (.slice A0 l0.length c0)→W.cell? ⟨w.heap.size+1,0,none⟩=some (.int .i64 a1)→Below W.heap.size W W'→Calls Try.prog 36 #[.slice A2 l2.length c2,.func (.func 34) #[] #[.pointer (some ⟨w.heap.size,0,none⟩),.pointer (some ⟨w.heap.size+1,0,none⟩)]] W' fun e w'=>e=.returned (.bool (l2.any fun x=>decide (toM l0 a1 x.f0 < 0)))∧Below W'.heap.size W' w'):=⟨fun W W0 hW hba hbb hWW=>by
   have hba:=(hWW.cell (World.block_lt_of_cell? _ _ hba)).trans hba
   have hbb:=(hWW.cell (World.block_lt_of_cell? _ _ hbb)).trans hbb
   have hW:=below_then hW hW.size hWW
   have:=anyE 34 #[.pointer (some ⟨w.heap.size,0,none⟩),.pointer (some ⟨w.heap.size+1,0,none⟩)] eg2 A2 c2 l2 (fun i=>(l2[i]?).elim false fun x=>decide (toM l0 a1 x.f0 < 0)) W0 (Kd.C_below hr2 hW) hl
    (fun i hi W' B1 c3 hW' hC hc=>by
     have hb1:=(hW'.cell (World.block_lt_of_cell? _ _ hba)).trans hba
     have hb2:=(hW'.cell (World.block_lt_of_cell? _ _ hbb)).trans hbb
     have:=none_pred w.heap.size (w.heap.size+1) A0 c0 l0 a1 (l2[i]) B1 c3 W' hb1 hb2 (Kd.C_below (Kd.C_below hr0 hW) hW') hc0 hok
     rw [List.getElem?_eq_getElem hi]
     exact this)
   rw [anyN_list] at this
   exact this⟩
  clear hr0 hr2 hx4 hf2 hx3 hok hf1 hc0 eg eg2 hc2
  generalize fs.any (lacksM l2)=r1 at HL1 ⊢
  generalize (l2.any fun x=>decide (toM l0 a1 x.f0 < 0))=r2 at HL2 ⊢
  generalize fs.length=nf at hx0 HL1
  subst e0
  generalize l0.length=n0 at h2 HL2 ⊢
  generalize l2.length=n2 at hl HL1 HL2 ⊢
  have hx0':=Lib.cell?_alloc_some (.cells #[.slice A2 n2 c2] 46) (Lib.cell?_alloc_some (.cells #[.int .i64 a1] 3) (Lib.cell?_alloc_some (.cells #[.slice (some ad) n0 c0] 23) hx0))
  have hx1':=Lib.cell?_alloc_some (.cells #[.slice A2 n2 c2] 46) (Lib.cell?_alloc_some (.cells #[.int .i64 a1] 3) (Lib.cell?_alloc_some (.cells #[.slice (some ad) n0 c0] 23) hx1))
  have hx2':=Lib.cell?_alloc_some (.cells #[.slice A2 n2 c2] 46) (Lib.cell?_alloc_some (.cells #[.int .i64 a1] 3) (Lib.cell?_alloc_some (.cells #[.slice (some ad) n0 c0] 23) hx2))
  clear hx0 hx1 hx2
  have e1:((n2:Int) == 1)=decide (n2=1):=by rw [Bool.eq_iff_iff,beq_iff_eq,decide_eq_true_eq];omega
  have e2:((n2:Int) != 1) = !decide (n2=1):=by rw [bne,e1]
  have e3:((n2:Int) == 0)=decide (n2=0):=by rw [Bool.eq_iff_iff,beq_iff_eq,decide_eq_true_eq];omega
  generalize decide (n2=1)=q1 at e1 e2 ⊢
  generalize decide (n2=0)=q0 at e3 ⊢
  cases one <;> cases som <;> cases q1 <;> cases q0 <;> cases r1 <;> (
   go_enter Try.func16,Try.ntmps16
   go_wp2_with (first
    | (go_at_call 35;refine (HL1.out _ ?s1 ?s2).mono ?_;(case s1=>exact below_alloc (below_alloc (below_alloc (below_alloc (Below.refl _ _) _) _) _) _);(case s2=>exact Lib.cell?_alloc_some _ (cell_new _ _ _ _ _ (by simp) rfl));rintro e w' ⟨rfl,hb',hc'⟩)
    | (go_at_call 36;refine (HL2.out _ _ ?s1 ?s2 ?s3 hb').mono ?_;(case s1=>exact below_alloc (below_alloc (below_alloc (below_alloc (Below.refl _ _) _) _) _) _);(case s2=>exact Lib.cell?_alloc_some _ (Lib.cell?_alloc_some _ (Lib.cell?_alloc_some _ (cell_new _ _ _ _ _ rfl rfl))));(case s3=>exact Lib.cell?_alloc_some _ (Lib.cell?_alloc_some _ (cell_new _ _ _ _ _ (by simp) rfl)));rintro e w'' ⟨rfl,hb''⟩))
   go_ret
   first
    | exact ⟨rfl,below_alloc (below_alloc (below_alloc (below_alloc (Below.refl _ _) _) _) _) _⟩
    | exact ⟨rfl,below_then (below_alloc (below_alloc (below_alloc (below_alloc (Below.refl _ _) _) _) _) _) (by simp;omega) hb'⟩
    | exact ⟨rfl,below_then (below_then (below_alloc (below_alloc (below_alloc (below_alloc (Below.refl _ _) _) _) _) _) (by simp;omega) hb') (Nat.le_trans (by simp;omega) hb'.size) hb''⟩)
 ·rw [levelM,if_pos (.inr (by omega))]
  clear hr0 hok hc0 hr2 hl hc2
  generalize l0.length=n at h2 ⊢
  generalize l2.length=m
  go_enter Try.func16,Try.ntmps16
  go_wp2
  go_ret
  exact ⟨rfl,below_alloc (below_alloc (below_alloc (Below.refl _ _) _) _) _⟩
end Go.Proofs.Ytoihiehoolehiaa.PX
set_option linter.unusedVariables false
set_option linter.unusedSimpArgs false
namespace Go.Proofs.Ytoihiehoolehiaa.PX
open Go.RowKit Go.Proofs.YtoihiehoolehiaaW.PrintWords Go.Proofs.YtoihiehoolehiaaW.PrintLast Go.Proofs.YtoihiehoolehiaaW.PrintMore Go.Proofs.Ytoihiehoolehiaa Go.Shelf
def fitsT1:Bool × List (List Nat × List Nat):=(true,[([],[]),([],[]),([],[]),([],[]),([3],[3]),([1,2,4],[1,2,4]),([],[]),([6],[6]),([0,5,7,5],[0,5,7]),([8],[8]),([9,8,0,1,2,3,4,5,6,7,8,9],[9])])
def fitsB1:List Nat:=[0,0,0,0,8,30,0,64,255,511,1023]
theorem fits_tab:rtab .any (opsOf Try.f38 1)=fitsT1:=by kernel_rfl
theorem fits_bits:waitsOk fitsT1.2 fitsB1=true:=by kernel_rfl
set_option maxHeartbeats 8000000 in
set_option maxRecDepth 100000 in
theorem fits_pred (B B2:Nat) (A0:Option Addr) (c0:Nat) (s:Sc) (d:Int) (y:ByteArray) (A1:Option Addr) (m c1:Nat) (r:Bool) (W:World) (hB:W.cell? ⟨B,0,none⟩=some (.slice A0 s.length c0)) (hB2:W.cell? ⟨B2,0,none⟩=some (.int .i64 d)) (hS:Kd.C k33 W A0 s.length s) (hc:s.length≤c0) (hok:ScOk s)
  (hF:∀ W',Below W.heap.size W W'→Calls Try.prog 18 #[.slice A0 s.length c0,.int .i64 (toM s d y),.slice A1 m c1] W' fun e w'=>e=.returned (.bool r)∧Below W'.heap.size W' w') :
  Calls Try.prog 38 #[.agg #[.string y,.slice A1 m c1],.pointer (some ⟨B,0,none⟩),.pointer (some ⟨B2,0,none⟩)] W fun e w'=>e=.returned (.bool (!r))∧Below W.heap.size W w':=by
 have HT:Aside0 (∀ W',Below W.heap.size W W'→Calls Try.prog 20 #[.slice A0 s.length c0,.int .i64 d,.string y] W' fun e w'=>e=.returned (.int .i64 (toM s d y))∧Below W'.heap.size W' w'):=⟨fun W' hW=>schema_To.calls A0 c0 s d y (toM s d y) W' (Kd.C_below hS hW) hc (by unfold schema_To.f;rw [if_pos hok])⟩
 have HF:=Aside0.mk hF
 clear hF hS
 generalize toM s d y=d2 at HT HF
 generalize s.length=n at hB hc HT HF
 clear hok hc
 have hu:=Try.underlying53
 have hg1:Aside0 (∀ W',Below (W.alloc (.cells #[.string y,.slice A1 m c1] 53)).heap.size (W.alloc (.cells #[.string y,.slice A1 m c1] 53)) W'→W'.cell? ⟨B,0,none⟩=some (.slice A0 n c0)∧W'.cell? ⟨B2,0,none⟩=some (.int .i64 d)∧W'.cell? ⟨W.heap.size,0,none⟩=some (.string y)∧W'.cell? ⟨W.heap.size,1,none⟩=some (.slice A1 m c1)):=⟨fun W' h=>by
  have q1:=Lib.cell?_alloc_some (.cells #[.string y,.slice A1 m c1] 53) hB
  have q2:=Lib.cell?_alloc_some (.cells #[.string y,.slice A1 m c1] 53) hB2
  have q3:=cell_new W #[.string y,.slice A1 m c1] 53 W.heap.size 0 rfl rfl
  have q4:=cell_new W #[.string y,.slice A1 m c1] 53 W.heap.size 1 rfl rfl
  exact ⟨(h.cell (World.block_lt_of_cell? _ _ q1)).trans q1,(h.cell (World.block_lt_of_cell? _ _ q2)).trans q2,(h.cell (World.block_lt_of_cell? _ _ q3)).trans q3,(h.cell (World.block_lt_of_cell? _ _ q4)).trans q4⟩⟩
 clear hB hB2
 go_enter Try.func38,Try.ntmps38
 try go_wp2
 have HB0:=Aside0.mk (below_alloc (Below.refl W.heap.size W) (.cells #[.string y,.slice A1 m c1] 53))
 have HB1:=Aside0.mk (Below.refl (W.alloc (.cells #[.string y,.slice A1 m c1] 53)).heap.size (W.alloc (.cells #[.string y,.slice A1 m c1] 53)))
 generalize hw1:W.alloc (.cells #[.string y,.slice A1 m c1] 53)=W1 at HB0 HB1 hg1 ⊢
 clear hw1
 refine start_ (n:=11) (S:=fun w'=>w'.cell? ⟨B,0,none⟩=some (.slice A0 n c0)∧w'.cell? ⟨B2,0,none⟩=some (.int .i64 d)∧w'.cell? ⟨W.heap.size,0,none⟩=some (.string y)∧w'.cell? ⟨W.heap.size,1,none⟩=some (.slice A1 m c1)) (ds:=[]) #[false,false,false,false,false,false,false,false,false,false,false] (by kernel_rfl) rfl rfl (hg1.out _ (bD_ HB1.out)) (fun hHeld=>?_);refine with_tabW fits_tab fits_bits (fun HT_ HW_=>?_)
 have HB2:=Aside0.mk (bD_ HB1.out)
 have HB3:=Aside0.mk (bD_ HB0.out)
 generalize W1.drew=W2 at HB2 HB3 hHeld ⊢
 clear HB0 HB1
 refine pure_ (i:=3) (N:=some 8) (v:=?_) (a':=?_) #[false,false,false,true,false,false,false,false,false,false,false] rfl rfl (any_of HT_.out (by kernel_rfl)) (fun _ _ _ h=>h) (Or.inl ⟨by rfl,?_⟩) ?_ ?_
 rotate_left
 ·intro w'
  go_simp
  with_reducible rfl
 rotate_left
 ·simp only [Act.put,List.setIfInBounds_toArray,List.set_cons_zero,List.set_cons_succ,i64_w,i32_w]
  rfl
 refine pure_ (i:=6) (N:=some 11) (v:=?_) (a':=?_) #[false,false,false,true,false,false,true,false,false,false,false] rfl rfl (any_of HT_.out (by kernel_rfl)) (fun _ _ _ h=>h) (Or.inl ⟨by rfl,?_⟩) ?_ ?_
 rotate_left
 ·intro w'
  go_simp
  with_reducible rfl
 rotate_left
 ·simp only [Act.put,List.setIfInBounds_toArray,List.set_cons_zero,List.set_cons_succ,i64_w,i32_w]
  rfl
 refine take_ (i:=0) (N:=some 5) (v:=?_) (a':=?_) #[true,false,false,true,false,false,true,false,false,false,false] rfl rfl (take_ofW HT_.out HW_.out (by kernel_rfl)) (fun _ _ _ h=>h) (Or.inl ⟨by rfl,?_⟩) hHeld ?_ ?_
 rotate_left
 ·rintro w' ⟨s0,s1,s2,s3⟩
  go_simp
  with_reducible rfl
 rotate_left
 ·simp only [Act.put,List.setIfInBounds_toArray,List.set_cons_zero,List.set_cons_succ,i64_w,i32_w]
  rfl
 refine take_ (i:=1) (N:=some 6) (v:=?_) (a':=?_) #[true,true,false,true,false,false,true,false,false,false,false] rfl rfl (take_ofW HT_.out HW_.out (by kernel_rfl)) (fun _ _ _ h=>h) (Or.inl ⟨by rfl,?_⟩) hHeld ?_ ?_
 rotate_left
 ·rintro w' ⟨s0,s1,s2,s3⟩
  go_simp
  with_reducible rfl
 rotate_left
 ·simp only [Act.put,List.setIfInBounds_toArray,List.set_cons_zero,List.set_cons_succ,i64_w,i32_w]
  rfl
 refine take_ (i:=2) (N:=some 7) (v:=?_) (a':=?_) #[true,true,true,true,false,false,true,false,false,false,false] rfl rfl (take_ofW HT_.out HW_.out (by kernel_rfl)) (fun _ _ _ h=>h) (Or.inl ⟨by rfl,?_⟩) hHeld ?_ ?_
 rotate_left
 ·rintro w' ⟨s0,s1,s2,s3⟩
  go_simp
  with_reducible rfl
 rotate_left
 ·simp only [Act.put,List.setIfInBounds_toArray,List.set_cons_zero,List.set_cons_succ,i64_w,i32_w]
  rfl
 refine take_ (i:=4) (N:=some 9) (v:=?_) (a':=?_) #[true,true,true,true,true,false,true,false,false,false,false] rfl rfl (take_ofW HT_.out HW_.out (by kernel_rfl)) (fun _ _ _ h=>h) (Or.inl ⟨by rfl,?_⟩) hHeld ?_ ?_
 rotate_left
 ·rintro w' ⟨s0,s1,s2,s3⟩
  go_simp
  with_reducible rfl
 rotate_left
 ·simp only [Act.put,List.setIfInBounds_toArray,List.set_cons_zero,List.set_cons_succ,i64_w,i32_w]
  rfl
 refine take_ (i:=7) (N:=some 12) (v:=?_) (a':=?_) #[true,true,true,true,true,false,true,true,false,false,false] rfl rfl (take_ofW HT_.out HW_.out (by kernel_rfl)) (fun _ _ _ h=>h) (Or.inl ⟨by rfl,?_⟩) hHeld ?_ ?_
 rotate_left
 ·rintro w' ⟨s0,s1,s2,s3⟩
  go_simp
  with_reducible rfl
 rotate_left
 ·simp only [Act.put,List.setIfInBounds_toArray,List.set_cons_zero,List.set_cons_succ,i64_w,i32_w]
  rfl
 refine one_ (i:=5) (N:=some 10) #[true,true,true,true,true,true,true,true,false,false,false] rfl rfl (one_of HT_.out (by kernel_rfl)) (by decide) (fun K hK=>?_)
 refine goes_ Try.func20 (by kernel_rfl) rfl #[.slice A0 n c0,.int .i64 d,.string y] (by rfl) rfl rfl (by (try simp only [List.map_toArray,List.map_cons,List.map_nil]);first|done|rfl) ?_
 refine (HT.out _ HB3.out).mono ?_
 rintro e w3 ⟨rfl,hb⟩
 refine ⟨_,rfl,?_⟩
 have n0_:=Aside0.mk (below_then HB2.out HB2.out.size hb)
 have n1_:=Aside0.mk (below_then HB3.out HB3.out.size hb)
 clear HB2 HB3 hb
 have HB2:=n0_
 have HB3:=n1_
 clear n0_ n1_
 refine hK.out _ _ (hg1.out _ HB2.out) (fun hHeld=>?_)
 clear hK K
 refine norm_ (a':=?_) ?_ ?_
 rotate_left
 ·show Act.put _ (some 10) _=_
  simp only [Act.put,List.setIfInBounds_toArray,List.set_cons_zero,List.set_cons_succ,i64_w,i32_w]
  rfl
 refine one_ (i:=8) (N:=some 13) #[true,true,true,true,true,true,true,true,true,false,false] rfl rfl (one_of HT_.out (by kernel_rfl)) (by decide) (fun K hK=>?_)
 refine goes_ Try.func18 (by kernel_rfl) rfl #[.slice A0 n c0,.int .i64 d2,.slice A1 m c1] (by rfl) rfl rfl (by (try simp only [List.map_toArray,List.map_cons,List.map_nil]);first|done|rfl) ?_
 refine (HF.out _ HB3.out).mono ?_
 rintro e w3 ⟨rfl,hb⟩
 refine ⟨_,rfl,?_⟩
 have n0_:=Aside0.mk (below_then HB2.out HB2.out.size hb)
 have n1_:=Aside0.mk (below_then HB3.out HB3.out.size hb)
 clear HB2 HB3 hb
 have HB2:=n0_
 have HB3:=n1_
 clear n0_ n1_
 refine hK.out _ _ (hg1.out _ HB2.out) (fun hHeld=>?_)
 clear hK K
 refine norm_ (a':=?_) ?_ ?_
 rotate_left
 ·show Act.put _ (some 13) _=_
  simp only [Act.put,List.setIfInBounds_toArray,List.set_cons_zero,List.set_cons_succ,i64_w,i32_w]
  rfl
 refine pure_ (i:=9) (N:=some 14) (v:=?_) (a':=?_) #[true,true,true,true,true,true,true,true,true,true,false] rfl rfl (any_of HT_.out (by kernel_rfl)) (fun _ _ _ h=>h) (Or.inl ⟨by rfl,?_⟩) ?_ ?_
 rotate_left
 ·intro w'
  go_simp
  with_reducible rfl
 rotate_left
 ·simp only [Act.put,List.setIfInBounds_toArray,List.set_cons_zero,List.set_cons_succ,i64_w,i32_w]
  rfl
 refine pure_ (i:=10) (N:=some 4) (v:=?_) (a':=?_) #[true,true,true,true,true,true,true,true,true,true,true] rfl rfl (any_of HT_.out (by kernel_rfl)) (fun _ _ _ h=>h) (Or.inl ⟨by rfl,?_⟩) ?_ ?_
 rotate_left
 ·intro w'
  go_simp
  with_reducible rfl
 rotate_left
 ·simp only [Act.put,List.setIfInBounds_toArray,List.set_cons_zero,List.set_cons_succ,i64_w,i32_w]
  rfl
 refine done_ (done_of HT_.out (by kernel_rfl)) ?_
 try go_wp2
 go_ret
 exact ⟨rfl,HB3.out⟩
theorem all_att {α:Type} (l:List α) (f:α→Bool):(l.attach.all fun x=>f x.1)=l.all f:=by
 rw [Bool.eq_iff_iff,List.all_eq_true,List.all_eq_true]
 exact ⟨fun h x hx=>h ⟨x,hx⟩ (List.mem_attach _ _),fun h x _=>h x.1 x.2⟩
theorem kids_lt {t:Tr} {x:S53} (h:x ∈ t):SizeOf.sizeOf x.f1 < SizeOf.sizeOf t:=by
 have h1:=List.sizeOf_lt_of_mem h
 have h2:SizeOf.sizeOf x.f1 < SizeOf.sizeOf x:=by
  cases x
  simp [S53.f1]
  omega
 omega
def trOk (t:Tr):Bool:=decide (t.length≤1000000000000) && t.attach.all fun x=>trOk x.1.f1
termination_by SizeOf.sizeOf t
decreasing_by exact kids_lt x.2
def fitsM (s:Sc) (d:Int) (t:Tr):Bool:=levelM s d t && t.attach.all fun x=>fitsM s (toM s d x.1.f0) x.1.f1
termination_by SizeOf.sizeOf t
decreasing_by exact kids_lt x.2
theorem trOk_eq (t:Tr):trOk t=(decide (t.length≤1000000000000) && t.all fun x=>trOk x.f1):=by
 rw [trOk]
 congr 1
 exact all_att t fun x=>trOk x.f1
theorem fitsM_eq (s:Sc) (d:Int) (t:Tr):fitsM s d t=(levelM s d t && t.all fun x=>fitsM s (toM s d x.f0) x.f1):=by
 rw [fitsM]
 congr 1
 exact all_att t fun x=>fitsM s (toM s d x.f0) x.f1
set_option maxHeartbeats 8000000 in
set_option maxRecDepth 100000 in
theorem fits_calls (s:Sc) (hok:ScOk s):∀ (N:Nat) (t:Tr),SizeOf.sizeOf t≤N→trOk t=true→∀ (A0:Option Addr) (c0:Nat) (d:Int) (A2:Option Addr) (c2:Nat) (w:World),Kd.C k33 w A0 s.length s→s.length≤c0→Kd.C k53 w A2 t.length t→t.length≤c2 →
  Calls Try.prog 18 #[.slice A0 s.length c0,.int .i64 d,.slice A2 t.length c2] w fun e w'=>e=.returned (.bool (fitsM s d t))∧Below w.heap.size w w'
 | 0,t,hN,_=>by cases t <;> simp at hN
 | N+1,t,hN,ht=>by
  intro A0 c0 d A2 c2 w hS hc0 hT hc2
  rw [trOk_eq,Bool.and_eq_true,decide_eq_true_eq,List.all_eq_true] at ht
  have HL:Aside0 (∀ W,Below w.heap.size w W→Calls Try.prog 16 #[.slice A0 s.length c0,.int .i64 d,.slice A2 t.length c2] W fun e w'=>e=.returned (.bool (levelM s d t))∧Below W.heap.size W w'):=⟨fun W hW=>schema_Level.calls A0 c0 s d A2 c2 t _ W (Kd.C_below hS hW) hc0 (Kd.C_below hT hW) hc2 (by unfold schema_Level.f;rw [if_pos ⟨hok,ht.1⟩])⟩
  have eg:∀ args w,(callFunc 38 args).run Try.prog w=.ok (.enter 38 args) w:=enters_of Try.func38 (by kernel_rfl) rfl
  have HA:Aside0 (∀ W W',Below w.heap.size w W→W.cell? ⟨w.heap.size,0,none⟩=some (.slice A0 s.length c0)→W.cell? ⟨w.heap.size+1,0,none⟩=some (.int .i64 d)→Below W.heap.size W W'→Calls Try.prog 36 #[.slice A2 t.length c2,.func (.func 38) #[] #[.pointer (some ⟨w.heap.size,0,none⟩),.pointer (some ⟨w.heap.size+1,0,none⟩)]] W' fun e w'=>e=.returned (.bool (t.any fun x=>!fitsM s (toM s d x.f0) x.f1))∧Below W'.heap.size W' w'):=⟨fun W W0 hW hba hbb hWW=>by
   have hba:=(hWW.cell (World.block_lt_of_cell? _ _ hba)).trans hba
   have hbb:=(hWW.cell (World.block_lt_of_cell? _ _ hbb)).trans hbb
   have hW:=below_then hW hW.size hWW
   have:=anyE 38 #[.pointer (some ⟨w.heap.size,0,none⟩),.pointer (some ⟨w.heap.size+1,0,none⟩)] eg A2 c2 t (fun i=>(t[i]?).elim false fun x=>!fitsM s (toM s d x.f0) x.f1) W0 (Kd.C_below hT hW) ht.1
    (fun i hi W' B1 c3 hW' hC hc=>by
     have hb1:=(hW'.cell (World.block_lt_of_cell? _ _ hba)).trans hba
     have hb2:=(hW'.cell (World.block_lt_of_cell? _ _ hbb)).trans hbb
     have hm:=List.getElem_mem hi
     have hlt:=kids_lt hm
     have hS':=Kd.C_below (Kd.C_below hS hW) hW'
     have:=fits_pred w.heap.size (w.heap.size+1) A0 c0 s d (t[i]).f0 B1 (t[i]).f1.length c3 (fitsM s (toM s d (t[i]).f0) (t[i]).f1) W' hb1 hb2 hS' hc0 hok
      (fun W3 hW3=>fits_calls s hok N (t[i]).f1 (by omega) (ht.2 _ hm) A0 c0 _ B1 c3 W3 (Kd.C_below hS' hW3) hc0 (Kd.C_below (Kd.C_below hC hW') hW3) hc)
     rw [List.getElem?_eq_getElem hi]
     exact this)
   rw [anyN_list] at this
   exact this⟩
  rw [fitsM_eq]
  have hq:(t.all fun x=>fitsM s (toM s d x.f0) x.f1) = !(t.any fun x=>!fitsM s (toM s d x.f0) x.f1):=by
   rw [List.not_any_eq_all_not]
   simp
  rw [hq]
  clear hq ht eg hT hS hN hc0 hc2
  generalize (t.any fun x=>!fitsM s (toM s d x.f0) x.f1)=r at HA ⊢
  generalize levelM s d t=l at HL ⊢
  generalize s.length=n at HL HA ⊢
  generalize t.length=m at HL HA ⊢
  cases l with
  | false =>
   go_enter Try.func18,Try.ntmps18
   go_wp2_with (go_at_call 16;refine (HL.out _ ?s1).mono ?_;(case s1=>exact below_alloc (below_alloc (Below.refl _ _) _) _);rintro e w' ⟨rfl,hb'⟩)
   go_ret
   exact ⟨rfl,below_then (below_alloc (below_alloc (Below.refl _ _) _) _) (by simp;omega) hb'⟩
  | true =>
   go_enter Try.func18,Try.ntmps18
   go_wp2_with (first
    | (go_at_call 16;refine (HL.out _ ?s1).mono ?_;(case s1=>exact below_alloc (below_alloc (Below.refl _ _) _) _);rintro e w' ⟨rfl,hb'⟩)
    | (go_at_call 36;refine (HA.out _ _ ?s1 ?s2 ?s3 hb').mono ?_;(case s1=>exact below_alloc (below_alloc (Below.refl _ _) _) _);(case s2=>exact Lib.cell?_alloc_some _ (cell_new _ _ _ _ _ rfl rfl));(case s3=>exact cell_new _ _ _ _ _ (by simp) rfl);rintro e w'' ⟨rfl,hb''⟩))
   go_ret
   exact ⟨rfl,below_then (below_then (below_alloc (below_alloc (Below.refl _ _) _) _) (by simp;omega) hb') (Nat.le_trans (by simp;omega) hb'.size) hb''⟩
def schema_Fits.f (l0:Sc) (a1:Int) (l2:Tr):Option Bool:=if ScOk l0∧trOk l2=true then some (fitsM l0 a1 l2) else none
theorem schema_Fits.calls (A0:Option Addr) (c0:Nat) (l0:List S33) (a1:Int) (A2:Option Addr) (c2:Nat) (l2:List S53) (r:Bool) (w:World) (hr0:Kd.C k33 w A0 l0.length l0) (hc0:l0.length≤c0) (hr2:Kd.C k53 w A2 l2.length l2) (hc2:l2.length≤c2) (h:schema_Fits.f l0 a1 l2=some r) :
  Calls Try.prog 18 #[.slice A0 l0.length c0,.int .i64 a1,.slice A2 l2.length c2] w fun e w'=>e=.returned (.bool r)∧Below w.heap.size w w':=by
 unfold schema_Fits.f at h
 split at h
 case isFalse=>cases h
 rename_i hok
 obtain rfl:=Option.some.inj h
 exact fits_calls l0 hok.1 _ l2 (Nat.le_refl _) hok.2 A0 c0 a1 A2 c2 w hr0 hc0 hr2 hc2
end Go.Proofs.Ytoihiehoolehiaa.PX
set_option linter.unusedVariables false
namespace Go.Proofs.Ytoihiehoolehiaa.PX
open Go.RowKit Go.Proofs.YtoihiehoolehiaaW.PrintWords Go.Proofs.YtoihiehoolehiaaW.PrintLast Go.Proofs.YtoihiehoolehiaaW.PrintMore Go.Proofs.Ytoihiehoolehiaa
theorem rdD_nat {l:Sc} {i:Nat} (h:i < l.length):rd_T33 l (i:Int)=l[i]:=by simp [rd_T33,List.getD_eq_getElem?_getD,h]
theorem trOk_nil:trOk []=true:=by rw [trOk_eq];rfl
end Go.Proofs.Ytoihiehoolehiaa.PX
set_option linter.unusedVariables false
set_option linter.unusedSimpArgs false
namespace Go.Proofs.Ytoihiehoolehiaa.PX
open Go.RowKit Go.Proofs.YtoihiehoolehiaaW.PrintWords Go.Proofs.YtoihiehoolehiaaW.PrintLast Go.Proofs.YtoihiehoolehiaaW.PrintMore Go.Proofs.Ytoihiehoolehiaa Go.Shelf
def schema_Check.f (l0 : List S33) : Option Int :=
  match l0 with
  | [⟨[], false, false⟩] => some 0
  | _ => none
theorem check_one {l0 : List S33} {r : Int} (h : schema_Check.f l0 = some r) : l0 = [⟨[], false, false⟩] ∧ r = 0 := by
  unfold schema_Check.f at h
  split at h
  · exact ⟨rfl, (Option.some.inj h).symm⟩
  · cases h
set_option maxHeartbeats 4000000 in
set_option maxRecDepth 100000 in
theorem schema_Check.calls (A0 : Option Addr) (c0 : Nat) (l0 : List S33) (r : Int) (w : World) (hr0 : Kd.C k33 w A0 l0.length l0) (hc0 : l0.length ≤ c0) (h : schema_Check.f l0 = some r) :
    Calls Try.prog 11 #[.slice A0 l0.length c0] w fun e w' => e = .returned (.int .i64 r) ∧ Below w.heap.size w w' := by
  obtain ⟨rfl, rfl⟩ := check_one h
  clear h
  obtain ⟨ad, A1, c1, rfl, hx0, hx1, hx2, _, _⟩ := at_T33 hr0 0 (by omega) (by simp)
  rw [show rd_T33 [(⟨[], false, false⟩ : S33)] 0 = ⟨[], false, false⟩ from rfl] at hx0 hx1 hx2
  simp only [Int.toNat_zero, Nat.zero_mul, List.length_nil] at hx0 hx1 hx2
  have hz : ad.add 0 = ad := by unfold Addr.add; rw [if_pos rfl]
  rw [hz] at hx0 hx1 hx2
  clear hz
  clear hr0
  have hu := Try.underlying33
  have hu2 := Try.underlying40
  rw [show ([(⟨[], false, false⟩ : S33)].length) = 1 from rfl] at hc0 ⊢
  go_enter Try.func11, Try.ntmps11
  go_wp2
  go_loopg [18] 1 (fun gg s18 wr => ∃ kk : Nat, kk ≤ 1 ∧ 1 - kk ≤ gg ∧ s18 = .int .i64 kk ∧ Aside0 (Below w.heap.size w wr))
  case atStart => exact ⟨0, Nat.zero_le _, by omega, rfl, ⟨Below.refl _ w⟩⟩
  case round =>
    obtain ⟨kk, hkk, hg, rfl, HB⟩ := hrel
    by_cases hlt : kk < 1
    · obtain rfl : kk = 0 := by omega
      replace hx0 := (HB.out.cell (World.block_lt_of_cell? w _ hx0)).trans hx0
      replace hx1 := (HB.out.cell (World.block_lt_of_cell? w _ hx1)).trans hx1
      replace hx2 := (HB.out.cell (World.block_lt_of_cell? w _ hx2)).trans hx2
      go_wp2
      go_loopg [29] 1 (fun gg2 s29 w2 => s29 = .int .i64 0 ∧ Aside0 (Below w.heap.size w w2))
      case atStart =>
        exact ⟨rfl, ⟨below_alloc HB.out _⟩⟩
      case round =>
        obtain ⟨rfl, HB2⟩ := hrel
        go_wp2
        go_roundg 0
        case measure => omega
        case rel => exact ⟨1, Nat.le_refl _, by omega, by go_num, HB2⟩
    · obtain rfl : kk = 1 := by omega
      go_wp2
      go_ret
      exact ⟨rfl, HB.out⟩
end Go.Proofs.Ytoihiehoolehiaa.PX
namespace Go.Proofs.Ytoihiehoolehiaa.PX
open Go.RowKit Go.Proofs.YtoihiehoolehiaaW.PrintWords Go.Proofs.YtoihiehoolehiaaW.PrintLast Go.Proofs.YtoihiehoolehiaaW.PrintMore
attribute [local go_sem] max2_int min2_int max_two min_two max_three min_three max_four min_four   
set_option linter.unusedVariables false
set_option linter.unusedSimpArgs false
def cadencelaw4_known.f  : Option (Bool):=(some (([(⟨([]:List (S40)),false,false⟩:S33)]:List (S33)):List (S33))).bind fun y101=>((schema_Check.f y101).bind fun t104=>(if t104=0 then ((schema_Fits.f y101 0 ([]:List (S53))).bind fun t105=>(if t105=true then ((schema_Fits.f y101 0 (([(⟨(⟨#[97]⟩:ByteArray),([]:List (S53))⟩:S53)]:List (S53)))).bind fun t109=>(if t109=true then (some false) else ((schema_To.f y101 0 (⟨#[97]⟩:ByteArray)).bind fun t110=>(some (t110 == (-1)))))) else (some false))) else (some false)))
set_option maxHeartbeats 8000000 in
set_option maxRecDepth 100000 in
theorem cadencelaw4_known.calls  (r:Bool) (w:World) (h:cadencelaw4_known.f  = some r) :
  Calls Try.prog 8 #[] w fun e w'=>e=.returned (.bool r)∧Below w.heap.size w w':=by
 have hu33:=Try.underlying33
 have hu53:=Try.underlying53
 have HB:=Aside0.mk (Below.refl w.heap.size w)
 have H:((some (([(⟨([]:List (S40)),false,false⟩:S33)]:List (S33)):List (S33))).bind fun y101=>((schema_Check.f y101).bind fun t104=>(if t104=0 then ((schema_Fits.f y101 0 ([]:List (S53))).bind fun t105=>(if t105=true then ((schema_Fits.f y101 0 (([(⟨(⟨#[97]⟩:ByteArray),([]:List (S53))⟩:S53)]:List (S53)))).bind fun t109=>(if t109=true then (some false) else ((schema_To.f y101 0 (⟨#[97]⟩:ByteArray)).bind fun t110=>(some (t110 == (-1)))))) else (some false))) else (some false))))=some r:=h
 clear h
 obtain ⟨y101,hy101⟩:∃ y_:List (S33),y_=(([(⟨([]:List (S40)),false,false⟩:S33)]:List (S33))):=⟨_,rfl⟩
 replace H:((schema_Check.f y101).bind fun t104=>(if t104=0 then ((schema_Fits.f y101 0 ([]:List (S53))).bind fun t105=>(if t105=true then ((schema_Fits.f y101 0 (([(⟨(⟨#[97]⟩:ByteArray),([]:List (S53))⟩:S53)]:List (S53)))).bind fun t109=>(if t109=true then (some false) else ((schema_To.f y101 0 (⟨#[97]⟩:ByteArray)).bind fun t110=>(some (t110 == (-1)))))) else (some false))) else (some false)))=some r:=by first|(rw [hy101];with_reducible exact H)|(have H2_:=(Option.bind_some _ _).symm.trans H;rw [hy101];with_reducible exact H2_)|(have H2_:=(Option.bind_some _ _).symm.trans H;with_reducible exact H2_)|with_reducible exact H|(rw [hy101];exact H)|exact H
 have Ny101:=Aside0.mk hy101
 clear hy101
 replace H:=Option.bind_eq_some_iff.mp H
 obtain ⟨t104,A10,H⟩:=H
 replace H:(if t104=0 then ((schema_Fits.f y101 0 ([]:List (S53))).bind fun t105=>(if t105=true then ((schema_Fits.f y101 0 (([(⟨(⟨#[97]⟩:ByteArray),([]:List (S53))⟩:S53)]:List (S53)))).bind fun t109=>(if t109=true then (some false) else ((schema_To.f y101 0 (⟨#[97]⟩:ByteArray)).bind fun t110=>(some (t110 == (-1)))))) else (some false))) else (some false))=some r:=H
 have A1:=Aside0.mk A10
 clear A10
 by_cases c2:t104=0
 ·rw [if_pos c2] at H
  have c2b0:(t104 == 0)=true:=beq_iff_eq.mpr c2
  have c2b1:(t104 != 0)=false:=bne_eq_false_iff_eq.mpr c2
  clear c2
  replace H:=Option.bind_eq_some_iff.mp H
  obtain ⟨t105,A30,H⟩:=H
  replace H:(if t105=true then ((schema_Fits.f y101 0 (([(⟨(⟨#[97]⟩:ByteArray),([]:List (S53))⟩:S53)]:List (S53)))).bind fun t109=>(if t109=true then (some false) else ((schema_To.f y101 0 (⟨#[97]⟩:ByteArray)).bind fun t110=>(some (t110 == (-1)))))) else (some false))=some r:=H
  have A3:=Aside0.mk A30
  clear A30
  by_cases c4:t105=true
  ·subst c4
   have H1:((schema_Fits.f y101 0 (([(⟨(⟨#[97]⟩:ByteArray),([]:List (S53))⟩:S53)]:List (S53)))).bind fun t109=>(if t109=true then (some false) else ((schema_To.f y101 0 (⟨#[97]⟩:ByteArray)).bind fun t110=>(some (t110 == (-1))))))=some r:=by rw [if_pos rfl] at H;exact H
   clear H
   have H:=H1
   clear H1
   obtain ⟨y106,hy106⟩:∃ y_:List (S53),y_=(([(⟨(⟨#[97]⟩:ByteArray),([]:List (S53))⟩:S53)]:List (S53))):=⟨_,rfl⟩
   replace H:((schema_Fits.f y101 0 y106).bind fun t109=>(if t109=true then (some false) else ((schema_To.f y101 0 (⟨#[97]⟩:ByteArray)).bind fun t110=>(some (t110 == (-1))))))=some r:=by first|(rw [hy106];with_reducible exact H)|(have H2_:=(Option.bind_some _ _).symm.trans H;rw [hy106];with_reducible exact H2_)|(have H2_:=(Option.bind_some _ _).symm.trans H;with_reducible exact H2_)|with_reducible exact H|(rw [hy106];exact H)|exact H
   have Ny106:=Aside0.mk hy106
   clear hy106
   replace H:=Option.bind_eq_some_iff.mp H
   obtain ⟨t109,A50,H⟩:=H
   replace H:(if t109=true then (some false) else ((schema_To.f y101 0 (⟨#[97]⟩:ByteArray)).bind fun t110=>(some (t110 == (-1)))))=some r:=H
   have A5:=Aside0.mk A50
   clear A50
   by_cases c6:t109=true
   ·subst c6
    have H1:(some false)=some r:=by rw [if_pos rfl] at H;exact H
    clear H
    have H:=H1
    clear H1
    obtain rfl:=Option.some.inj H
    go_enter Try.func8,Try.ntmps8
    go_wp2_with (first|((with_reducible refine gate_dst (N:=3) rfl ?_);(try (refine gate_guard (by rfl) ?_;dsimp only));refine Kd.R_lit k33 _ 33 ?hg (N:=3) ?hd (xs:=([(⟨([]:List (S40)),false,false⟩:S33)]:List (S33))) (inner:=[.slice none 0 0,.bool false,.bool false]) (ok:=fun _=>True) (okp:=fun _=>True) ?hr ?hp (fun _ hk=>hk) trivial (Below.refl _ _) (Nat.le_refl _) (by simp) ?_;(case hd=>rfl);(case hg=>rfl);(case hr=>first|(go_simp;done)|(go_simp;rfl));(case hp=>exact (Reps.c3 (show Kd.M k33 _ _ _ (⟨([]:List (S40)),false,false⟩:S33) [.slice none 0 0,.bool false,.bool false] from (k33_mkM _ _ _ (⟨([]:List (S40)),false,false⟩:S33) (Kd.R_nil _ _ _ _ _))) (Reps.none _ _)));intro v102 w7 ho8 hb hg_ hnew_;clear hg_ hnew_;(first|rw [← Ny101.out] at ho8|(simp only [Int.reduceToNat] at ho8;rw [← Ny101.out] at ho8));have n0_:=Aside0.mk (Kd.R_lower ho8 (below_size (by repeat (first|(with_reducible first|exact HB.out|apply bA_|apply bN_|apply bD_)|exact HB.out))));have n1_:=Aside0.mk (below_step (by repeat (first|(with_reducible first|exact HB.out|apply bA_|apply bN_|apply bD_)|exact HB.out)) hb);clear HB;have HO103:=n0_;have HB:=n1_;clear n0_ n1_;clear hb ho8;obtain ⟨Ao9,co9,eo9⟩:=Kd.R_slice HO103.out;subst eo9)|((with_reducible refine gate_callee (f:=11) rfl ?_);refine goesL_ (some 5) rfl rfl Try.func11 (by kernel_rfl) rfl #[.slice Ao9 y101.length co9] rfl (by (try simp only [List.map_toArray,List.map_cons,List.map_nil]);first|done|rfl|(simp only [List.length_drop,List.length_take];rfl)) ?_;(with_reducible refine (schema_Check.calls _ _ y101 t104 _ ?side1 ?side2 A1.out).mono ?_);(case side1=>repeat (first|exact (Kd.R_reads' HO103.out).2.2|(with_reducible refine cA_ ?_ _)|(with_reducible refine cN_ ?_ _)|(with_reducible refine cD_ ?_)));(case side2=>exact (Kd.R_reads' HO103.out).2.1);rintro e w10 ⟨rfl,hb⟩;refine ⟨_,rfl,?_⟩;have n0_:=Aside0.mk (Kd.R_below (by (with_reducible repeat (first|apply rA_|apply rN_|apply rD_));exact HO103.out) hb);have n1_:=Aside0.mk (below_step (by repeat (first|(with_reducible first|exact HB.out|apply bA_|apply bN_|apply bD_)|exact HB.out)) hb);clear HO103;clear HB;have HO103:=n0_;have HB:=n1_;clear n0_ n1_;(try clear hb);(try clear hb2);(try clear hk);(try clear hi))|((with_reducible refine gate_dst (N:=14) rfl ?_);(try (refine gate_guard (by rfl) ?_;dsimp only));refine Kd.R_lit k53 _ 53 ?hg (N:=14) ?hd (xs:=([(⟨(⟨#[97]⟩:ByteArray),([]:List (S53))⟩:S53)]:List (S53))) (inner:=[.string (⟨#[97]⟩:ByteArray),.slice none 0 0]) (ok:=fun _=>True) (okp:=fun _=>True) ?hr ?hp (fun _ hk=>hk) trivial (Below.refl _ _) (Nat.le_refl _) (by simp) ?_;(case hd=>rfl);(case hg=>rfl);(case hr=>first|(go_simp;done)|(go_simp;rfl));(case hp=>exact (Reps.c2 (show Kd.M k53 _ _ _ (⟨(⟨#[97]⟩:ByteArray),([]:List (S53))⟩:S53) [.string (⟨#[97]⟩:ByteArray),.slice none 0 0] from (k53_mkM _ _ _ (⟨(⟨#[97]⟩:ByteArray),([]:List (S53))⟩:S53) (Kd.R_nil _ _ _ _ _))) (Reps.none _ _)));intro v107 w12 ho13 hb hg_ hnew_;clear hg_ hnew_;(first|rw [← Ny106.out] at ho13|(simp only [Int.reduceToNat] at ho13;rw [← Ny106.out] at ho13));have n0_:=Aside0.mk (Kd.R_below (by (with_reducible repeat (first|apply rA_|apply rN_|apply rD_));exact HO103.out) hb);have n1_:=Aside0.mk (Kd.R_lower ho13 (below_size (by repeat (first|(with_reducible first|exact HB.out|apply bA_|apply bN_|apply bD_)|exact HB.out))));have n2_:=Aside0.mk (below_step (by repeat (first|(with_reducible first|exact HB.out|apply bA_|apply bN_|apply bD_)|exact HB.out)) hb);clear HO103;clear HB;have HO103:=n0_;have HO108:=n1_;have HB:=n2_;clear n0_ n1_ n2_;clear hb ho13;obtain ⟨Ao14,co14,eo14⟩:=Kd.R_slice HO108.out;subst eo14)|(go_at_call 18;(with_reducible refine (schema_Fits.calls _ _ y101 0 _ _ y106 true _ ?side1 ?side2 ?side3 ?side4 A5.out).mono ?_);(case side1=>repeat (first|exact (Kd.R_reads' HO103.out).2.2|(with_reducible refine cA_ ?_ _)|(with_reducible refine cN_ ?_ _)|(with_reducible refine cD_ ?_)));(case side2=>exact (Kd.R_reads' HO103.out).2.1);(case side3=>repeat (first|exact (Kd.R_reads' HO108.out).2.2|(with_reducible refine cA_ ?_ _)|(with_reducible refine cN_ ?_ _)|(with_reducible refine cD_ ?_)));(case side4=>exact (Kd.R_reads' HO108.out).2.1);rintro e w15 ⟨rfl,hb⟩;have n0_:=Aside0.mk (Kd.R_below (by (with_reducible repeat (first|apply rA_|apply rN_|apply rD_));exact HO103.out) hb);have n1_:=Aside0.mk (Kd.R_below (by (with_reducible repeat (first|apply rA_|apply rN_|apply rD_));exact HO108.out) hb);have n2_:=Aside0.mk (below_step (by repeat (first|(with_reducible first|exact HB.out|apply bA_|apply bN_|apply bD_)|exact HB.out)) hb);clear HO103;clear HO108;clear HB;have HO103:=n0_;have HO108:=n1_;have HB:=n2_;clear n0_ n1_ n2_;(try clear hb);(try clear hb2);(try clear hk);(try clear hi))|(go_at_call 18;(refine (schema_Fits.calls _ _ y101 0 _ _ ([]:List (S53)) true _ ?side1 ?side2 ?side3 ?side4 A3.out).mono ?_);(case side1=>repeat (first|exact (Kd.R_reads' HO103.out).2.2|(with_reducible refine cA_ ?_ _)|(with_reducible refine cN_ ?_ _)|(with_reducible refine cD_ ?_)));(case side2=>exact (Kd.R_reads' HO103.out).2.1);(case side3=>exact Kd.C_nil _ _);(case side4=>exact Nat.le_refl _);rintro e w11 ⟨rfl,hb⟩;have n0_:=Aside0.mk (Kd.R_below (by (with_reducible repeat (first|apply rA_|apply rN_|apply rD_));exact HO103.out) hb);have n1_:=Aside0.mk (below_step (by repeat (first|(with_reducible first|exact HB.out|apply bA_|apply bN_|apply bD_)|exact HB.out)) hb);clear HO103;clear HB;have HO103:=n0_;have HB:=n1_;clear n0_ n1_;(try clear hb);(try clear hb2);(try clear hk);(try clear hi)))
    go_ret
    exact ⟨by first|rfl|(simp [errW_none,errW_some] <;> rfl)|(simp [*,errW_none,errW_some] <;> rfl),by repeat (first|(with_reducible first|exact HB.out|apply bA_|apply bN_|apply bD_)|exact HB.out)⟩
   ·replace c6:=Bool.eq_false_iff.mpr c6
    subst c6
    have H1:((schema_To.f y101 0 (⟨#[97]⟩:ByteArray)).bind fun t110=>(some (t110 == (-1))))=some r:=by rw [if_neg (show ¬ (false=true) by decide)] at H;exact H
    clear H
    have H:=H1
    clear H1
    replace H:=Option.bind_eq_some_iff.mp H
    obtain ⟨t110,A160,H⟩:=H
    replace H:(some (t110 == (-1)))=some r:=H
    have A16:=Aside0.mk A160
    clear A160
    obtain rfl:=Option.some.inj H
    go_enter Try.func8,Try.ntmps8
    go_wp2_with (first|((with_reducible refine gate_dst (N:=3) rfl ?_);(try (refine gate_guard (by rfl) ?_;dsimp only));refine Kd.R_lit k33 _ 33 ?hg (N:=3) ?hd (xs:=([(⟨([]:List (S40)),false,false⟩:S33)]:List (S33))) (inner:=[.slice none 0 0,.bool false,.bool false]) (ok:=fun _=>True) (okp:=fun _=>True) ?hr ?hp (fun _ hk=>hk) trivial (Below.refl _ _) (Nat.le_refl _) (by simp) ?_;(case hd=>rfl);(case hg=>rfl);(case hr=>first|(go_simp;done)|(go_simp;rfl));(case hp=>exact (Reps.c3 (show Kd.M k33 _ _ _ (⟨([]:List (S40)),false,false⟩:S33) [.slice none 0 0,.bool false,.bool false] from (k33_mkM _ _ _ (⟨([]:List (S40)),false,false⟩:S33) (Kd.R_nil _ _ _ _ _))) (Reps.none _ _)));intro v102 w17 ho18 hb hg_ hnew_;clear hg_ hnew_;(first|rw [← Ny101.out] at ho18|(simp only [Int.reduceToNat] at ho18;rw [← Ny101.out] at ho18));have n0_:=Aside0.mk (Kd.R_lower ho18 (below_size (by repeat (first|(with_reducible first|exact HB.out|apply bA_|apply bN_|apply bD_)|exact HB.out))));have n1_:=Aside0.mk (below_step (by repeat (first|(with_reducible first|exact HB.out|apply bA_|apply bN_|apply bD_)|exact HB.out)) hb);clear HB;have HO103:=n0_;have HB:=n1_;clear n0_ n1_;clear hb ho18;obtain ⟨Ao19,co19,eo19⟩:=Kd.R_slice HO103.out;subst eo19)|((with_reducible refine gate_callee (f:=11) rfl ?_);refine goesL_ (some 5) rfl rfl Try.func11 (by kernel_rfl) rfl #[.slice Ao19 y101.length co19] rfl (by (try simp only [List.map_toArray,List.map_cons,List.map_nil]);first|done|rfl|(simp only [List.length_drop,List.length_take];rfl)) ?_;(with_reducible refine (schema_Check.calls _ _ y101 t104 _ ?side1 ?side2 A1.out).mono ?_);(case side1=>repeat (first|exact (Kd.R_reads' HO103.out).2.2|(with_reducible refine cA_ ?_ _)|(with_reducible refine cN_ ?_ _)|(with_reducible refine cD_ ?_)));(case side2=>exact (Kd.R_reads' HO103.out).2.1);rintro e w20 ⟨rfl,hb⟩;refine ⟨_,rfl,?_⟩;have n0_:=Aside0.mk (Kd.R_below (by (with_reducible repeat (first|apply rA_|apply rN_|apply rD_));exact HO103.out) hb);have n1_:=Aside0.mk (below_step (by repeat (first|(with_reducible first|exact HB.out|apply bA_|apply bN_|apply bD_)|exact HB.out)) hb);clear HO103;clear HB;have HO103:=n0_;have HB:=n1_;clear n0_ n1_;(try clear hb);(try clear hb2);(try clear hk);(try clear hi))|((with_reducible refine gate_dst (N:=14) rfl ?_);(try (refine gate_guard (by rfl) ?_;dsimp only));refine Kd.R_lit k53 _ 53 ?hg (N:=14) ?hd (xs:=([(⟨(⟨#[97]⟩:ByteArray),([]:List (S53))⟩:S53)]:List (S53))) (inner:=[.string (⟨#[97]⟩:ByteArray),.slice none 0 0]) (ok:=fun _=>True) (okp:=fun _=>True) ?hr ?hp (fun _ hk=>hk) trivial (Below.refl _ _) (Nat.le_refl _) (by simp) ?_;(case hd=>rfl);(case hg=>rfl);(case hr=>first|(go_simp;done)|(go_simp;rfl));(case hp=>exact (Reps.c2 (show Kd.M k53 _ _ _ (⟨(⟨#[97]⟩:ByteArray),([]:List (S53))⟩:S53) [.string (⟨#[97]⟩:ByteArray),.slice none 0 0] from (k53_mkM _ _ _ (⟨(⟨#[97]⟩:ByteArray),([]:List (S53))⟩:S53) (Kd.R_nil _ _ _ _ _))) (Reps.none _ _)));intro v107 w22 ho23 hb hg_ hnew_;clear hg_ hnew_;(first|rw [← Ny106.out] at ho23|(simp only [Int.reduceToNat] at ho23;rw [← Ny106.out] at ho23));have n0_:=Aside0.mk (Kd.R_below (by (with_reducible repeat (first|apply rA_|apply rN_|apply rD_));exact HO103.out) hb);have n1_:=Aside0.mk (Kd.R_lower ho23 (below_size (by repeat (first|(with_reducible first|exact HB.out|apply bA_|apply bN_|apply bD_)|exact HB.out))));have n2_:=Aside0.mk (below_step (by repeat (first|(with_reducible first|exact HB.out|apply bA_|apply bN_|apply bD_)|exact HB.out)) hb);clear HO103;clear HB;have HO103:=n0_;have HO108:=n1_;have HB:=n2_;clear n0_ n1_ n2_;clear hb ho23;obtain ⟨Ao24,co24,eo24⟩:=Kd.R_slice HO108.out;subst eo24)|(go_at_call 18;(with_reducible refine (schema_Fits.calls _ _ y101 0 _ _ y106 false _ ?side1 ?side2 ?side3 ?side4 A5.out).mono ?_);(case side1=>repeat (first|exact (Kd.R_reads' HO103.out).2.2|(with_reducible refine cA_ ?_ _)|(with_reducible refine cN_ ?_ _)|(with_reducible refine cD_ ?_)));(case side2=>exact (Kd.R_reads' HO103.out).2.1);(case side3=>repeat (first|exact (Kd.R_reads' HO108.out).2.2|(with_reducible refine cA_ ?_ _)|(with_reducible refine cN_ ?_ _)|(with_reducible refine cD_ ?_)));(case side4=>exact (Kd.R_reads' HO108.out).2.1);rintro e w25 ⟨rfl,hb⟩;have n0_:=Aside0.mk (Kd.R_below (by (with_reducible repeat (first|apply rA_|apply rN_|apply rD_));exact HO103.out) hb);have n1_:=Aside0.mk (Kd.R_below (by (with_reducible repeat (first|apply rA_|apply rN_|apply rD_));exact HO108.out) hb);have n2_:=Aside0.mk (below_step (by repeat (first|(with_reducible first|exact HB.out|apply bA_|apply bN_|apply bD_)|exact HB.out)) hb);clear HO103;clear HO108;clear HB;have HO103:=n0_;have HO108:=n1_;have HB:=n2_;clear n0_ n1_ n2_;(try clear hb);(try clear hb2);(try clear hk);(try clear hi))|(go_at_call 20;(with_reducible refine (schema_To.calls _ _ y101 0 (⟨#[97]⟩:ByteArray) t110 _ ?side1 ?side2 A16.out).mono ?_);(case side1=>repeat (first|exact (Kd.R_reads' HO103.out).2.2|(with_reducible refine cA_ ?_ _)|(with_reducible refine cN_ ?_ _)|(with_reducible refine cD_ ?_)));(case side2=>exact (Kd.R_reads' HO103.out).2.1);rintro e w26 ⟨rfl,hb⟩;have n0_:=Aside0.mk (Kd.R_below (by (with_reducible repeat (first|apply rA_|apply rN_|apply rD_));exact HO103.out) hb);have n1_:=Aside0.mk (Kd.R_below (by (with_reducible repeat (first|apply rA_|apply rN_|apply rD_));exact HO108.out) hb);have n2_:=Aside0.mk (below_step (by repeat (first|(with_reducible first|exact HB.out|apply bA_|apply bN_|apply bD_)|exact HB.out)) hb);clear HO103;clear HO108;clear HB;have HO103:=n0_;have HO108:=n1_;have HB:=n2_;clear n0_ n1_ n2_;(try clear hb);(try clear hb2);(try clear hk);(try clear hi))|(go_at_call 18;(refine (schema_Fits.calls _ _ y101 0 _ _ ([]:List (S53)) true _ ?side1 ?side2 ?side3 ?side4 A3.out).mono ?_);(case side1=>repeat (first|exact (Kd.R_reads' HO103.out).2.2|(with_reducible refine cA_ ?_ _)|(with_reducible refine cN_ ?_ _)|(with_reducible refine cD_ ?_)));(case side2=>exact (Kd.R_reads' HO103.out).2.1);(case side3=>exact Kd.C_nil _ _);(case side4=>exact Nat.le_refl _);rintro e w21 ⟨rfl,hb⟩;have n0_:=Aside0.mk (Kd.R_below (by (with_reducible repeat (first|apply rA_|apply rN_|apply rD_));exact HO103.out) hb);have n1_:=Aside0.mk (below_step (by repeat (first|(with_reducible first|exact HB.out|apply bA_|apply bN_|apply bD_)|exact HB.out)) hb);clear HO103;clear HB;have HO103:=n0_;have HB:=n1_;clear n0_ n1_;(try clear hb);(try clear hb2);(try clear hk);(try clear hi)))
    go_ret
    exact ⟨by first|rfl|(simp [errW_none,errW_some] <;> rfl)|(simp [*,errW_none,errW_some] <;> rfl),by repeat (first|(with_reducible first|exact HB.out|apply bA_|apply bN_|apply bD_)|exact HB.out)⟩
  ·replace c4:=Bool.eq_false_iff.mpr c4
   subst c4
   have H1:(some false)=some r:=by rw [if_neg (show ¬ (false=true) by decide)] at H;exact H
   clear H
   have H:=H1
   clear H1
   obtain rfl:=Option.some.inj H
   go_enter Try.func8,Try.ntmps8
   go_wp2_with (first|((with_reducible refine gate_dst (N:=3) rfl ?_);(try (refine gate_guard (by rfl) ?_;dsimp only));refine Kd.R_lit k33 _ 33 ?hg (N:=3) ?hd (xs:=([(⟨([]:List (S40)),false,false⟩:S33)]:List (S33))) (inner:=[.slice none 0 0,.bool false,.bool false]) (ok:=fun _=>True) (okp:=fun _=>True) ?hr ?hp (fun _ hk=>hk) trivial (Below.refl _ _) (Nat.le_refl _) (by simp) ?_;(case hd=>rfl);(case hg=>rfl);(case hr=>first|(go_simp;done)|(go_simp;rfl));(case hp=>exact (Reps.c3 (show Kd.M k33 _ _ _ (⟨([]:List (S40)),false,false⟩:S33) [.slice none 0 0,.bool false,.bool false] from (k33_mkM _ _ _ (⟨([]:List (S40)),false,false⟩:S33) (Kd.R_nil _ _ _ _ _))) (Reps.none _ _)));intro v102 w27 ho28 hb hg_ hnew_;clear hg_ hnew_;(first|rw [← Ny101.out] at ho28|(simp only [Int.reduceToNat] at ho28;rw [← Ny101.out] at ho28));have n0_:=Aside0.mk (Kd.R_lower ho28 (below_size (by repeat (first|(with_reducible first|exact HB.out|apply bA_|apply bN_|apply bD_)|exact HB.out))));have n1_:=Aside0.mk (below_step (by repeat (first|(with_reducible first|exact HB.out|apply bA_|apply bN_|apply bD_)|exact HB.out)) hb);clear HB;have HO103:=n0_;have HB:=n1_;clear n0_ n1_;clear hb ho28;obtain ⟨Ao29,co29,eo29⟩:=Kd.R_slice HO103.out;subst eo29)|((with_reducible refine gate_callee (f:=11) rfl ?_);refine goesL_ (some 5) rfl rfl Try.func11 (by kernel_rfl) rfl #[.slice Ao29 y101.length co29] rfl (by (try simp only [List.map_toArray,List.map_cons,List.map_nil]);first|done|rfl|(simp only [List.length_drop,List.length_take];rfl)) ?_;(with_reducible refine (schema_Check.calls _ _ y101 t104 _ ?side1 ?side2 A1.out).mono ?_);(case side1=>repeat (first|exact (Kd.R_reads' HO103.out).2.2|(with_reducible refine cA_ ?_ _)|(with_reducible refine cN_ ?_ _)|(with_reducible refine cD_ ?_)));(case side2=>exact (Kd.R_reads' HO103.out).2.1);rintro e w30 ⟨rfl,hb⟩;refine ⟨_,rfl,?_⟩;have n0_:=Aside0.mk (Kd.R_below (by (with_reducible repeat (first|apply rA_|apply rN_|apply rD_));exact HO103.out) hb);have n1_:=Aside0.mk (below_step (by repeat (first|(with_reducible first|exact HB.out|apply bA_|apply bN_|apply bD_)|exact HB.out)) hb);clear HO103;clear HB;have HO103:=n0_;have HB:=n1_;clear n0_ n1_;(try clear hb);(try clear hb2);(try clear hk);(try clear hi))|(go_at_call 18;(refine (schema_Fits.calls _ _ y101 0 _ _ ([]:List (S53)) false _ ?side1 ?side2 ?side3 ?side4 A3.out).mono ?_);(case side1=>repeat (first|exact (Kd.R_reads' HO103.out).2.2|(with_reducible refine cA_ ?_ _)|(with_reducible refine cN_ ?_ _)|(with_reducible refine cD_ ?_)));(case side2=>exact (Kd.R_reads' HO103.out).2.1);(case side3=>exact Kd.C_nil _ _);(case side4=>exact Nat.le_refl _);rintro e w31 ⟨rfl,hb⟩;have n0_:=Aside0.mk (Kd.R_below (by (with_reducible repeat (first|apply rA_|apply rN_|apply rD_));exact HO103.out) hb);have n1_:=Aside0.mk (below_step (by repeat (first|(with_reducible first|exact HB.out|apply bA_|apply bN_|apply bD_)|exact HB.out)) hb);clear HO103;clear HB;have HO103:=n0_;have HB:=n1_;clear n0_ n1_;(try clear hb);(try clear hb2);(try clear hk);(try clear hi)))
   go_ret
   exact ⟨by first|rfl|(simp [errW_none,errW_some] <;> rfl)|(simp [*,errW_none,errW_some] <;> rfl),by repeat (first|(with_reducible first|exact HB.out|apply bA_|apply bN_|apply bD_)|exact HB.out)⟩
 ·rw [if_neg c2] at H
  have c2b0:(t104 == 0)=false:=beq_eq_false_iff_ne.mpr c2
  have c2b1:(t104 != 0)=true:=bne_iff_ne.mpr c2
  obtain rfl:=Option.some.inj H
  go_enter Try.func8,Try.ntmps8
  go_wp2_with (first|((with_reducible refine gate_dst (N:=3) rfl ?_);(try (refine gate_guard (by rfl) ?_;dsimp only));refine Kd.R_lit k33 _ 33 ?hg (N:=3) ?hd (xs:=([(⟨([]:List (S40)),false,false⟩:S33)]:List (S33))) (inner:=[.slice none 0 0,.bool false,.bool false]) (ok:=fun _=>True) (okp:=fun _=>True) ?hr ?hp (fun _ hk=>hk) trivial (Below.refl _ _) (Nat.le_refl _) (by simp) ?_;(case hd=>rfl);(case hg=>rfl);(case hr=>first|(go_simp;done)|(go_simp;rfl));(case hp=>exact (Reps.c3 (show Kd.M k33 _ _ _ (⟨([]:List (S40)),false,false⟩:S33) [.slice none 0 0,.bool false,.bool false] from (k33_mkM _ _ _ (⟨([]:List (S40)),false,false⟩:S33) (Kd.R_nil _ _ _ _ _))) (Reps.none _ _)));intro v102 w32 ho33 hb hg_ hnew_;clear hg_ hnew_;(first|rw [← Ny101.out] at ho33|(simp only [Int.reduceToNat] at ho33;rw [← Ny101.out] at ho33));have n0_:=Aside0.mk (Kd.R_lower ho33 (below_size (by repeat (first|(with_reducible first|exact HB.out|apply bA_|apply bN_|apply bD_)|exact HB.out))));have n1_:=Aside0.mk (below_step (by repeat (first|(with_reducible first|exact HB.out|apply bA_|apply bN_|apply bD_)|exact HB.out)) hb);clear HB;have HO103:=n0_;have HB:=n1_;clear n0_ n1_;clear hb ho33;obtain ⟨Ao34,co34,eo34⟩:=Kd.R_slice HO103.out;subst eo34)|((with_reducible refine gate_callee (f:=11) rfl ?_);refine goesL_ (some 5) rfl rfl Try.func11 (by kernel_rfl) rfl #[.slice Ao34 y101.length co34] rfl (by (try simp only [List.map_toArray,List.map_cons,List.map_nil]);first|done|rfl|(simp only [List.length_drop,List.length_take];rfl)) ?_;(with_reducible refine (schema_Check.calls _ _ y101 t104 _ ?side1 ?side2 A1.out).mono ?_);(case side1=>repeat (first|exact (Kd.R_reads' HO103.out).2.2|(with_reducible refine cA_ ?_ _)|(with_reducible refine cN_ ?_ _)|(with_reducible refine cD_ ?_)));(case side2=>exact (Kd.R_reads' HO103.out).2.1);rintro e w35 ⟨rfl,hb⟩;refine ⟨_,rfl,?_⟩;have n0_:=Aside0.mk (Kd.R_below (by (with_reducible repeat (first|apply rA_|apply rN_|apply rD_));exact HO103.out) hb);have n1_:=Aside0.mk (below_step (by repeat (first|(with_reducible first|exact HB.out|apply bA_|apply bN_|apply bD_)|exact HB.out)) hb);clear HO103;clear HB;have HO103:=n0_;have HB:=n1_;clear n0_ n1_;(try clear hb);(try clear hb2);(try clear hk);(try clear hi)))
  go_ret
  exact ⟨by first|rfl|(simp [errW_none,errW_some] <;> rfl)|(simp [*,errW_none,errW_some] <;> rfl),by repeat (first|(with_reducible first|exact HB.out|apply bA_|apply bN_|apply bD_)|exact HB.out)⟩
end Go.Proofs.Ytoihiehoolehiaa.PX
set_option linter.unusedVariables false
set_option linter.unusedSimpArgs false
namespace Go.Proofs.Ytoihiehoolehiaa.PX
open Go.RowKit Go.Proofs.YtoihiehoolehiaaW.PrintWords Go.Proofs.YtoihiehoolehiaaW.PrintLast Go.Proofs.YtoihiehoolehiaaW.PrintMore Go.Proofs.Ytoihiehoolehiaa
theorem known4:cadencelaw4_known.f=some true:=by
 have hok:ScOk [(⟨[],false,false⟩:S33)]:=⟨by simp,fun d hd=>by
  simp only [List.mem_singleton] at hd
  subst hd
  exact ⟨by simp,fun f hf=>by cases hf⟩⟩
 have h1:schema_Fits.f [(⟨[],false,false⟩:S33)] 0 []=some true:=by
  unfold schema_Fits.f
  rw [if_pos ⟨hok,trOk_nil⟩,fitsM_eq]
  rfl
 have h2:schema_Fits.f [(⟨[],false,false⟩:S33)] 0 [⟨⟨#[97]⟩,[]⟩]=some false:=by
  unfold schema_Fits.f
  rw [if_pos ⟨hok,by rw [trOk_eq];simp [trOk_nil]⟩,fitsM_eq]
  rfl
 have h3:schema_To.f [(⟨[],false,false⟩:S33)] 0 ⟨#[97]⟩=some (-1):=by
  unfold schema_To.f
  rw [if_pos hok]
  rfl
 have hc:schema_Check.f [(⟨[],false,false⟩:S33)]=some 0:=rfl
 unfold cadencelaw4_known.f
 simp only [Option.bind_some]
 rw [hc]
 simp only [Option.bind_some,if_pos]
 rw [h1]
 simp only [Option.bind_some,if_pos]
 rw [h2]
 simp only [Option.bind_some]
 rw [if_neg (by simp),h3]
 rfl
end Go.Proofs.Ytoihiehoolehiaa.PX
set_option linter.unusedVariables false
set_option linter.unusedSimpArgs false
namespace Go.Proofs.Ytoihiehoolehiaa.PX
open Go.RowKit Go.Proofs.YtoihiehoolehiaaW.PrintWords Go.Proofs.YtoihiehoolehiaaW.PrintLast Go.Proofs.YtoihiehoolehiaaW.PrintMore Go.ChangeShapes Go.WideShapes Go.ChangeAt Go.Deep
abbrev Raw:=S67
inductive RawOk:List Raw→Prop
 | mk (l:List Raw) (hl:l.length≤3518437208832) (hk:∀ x ∈ l,RawOk x.f1):RawOk l
instance:Inhabited Raw:=⟨z67⟩
section
variable {H:Type} {enc:TypeId × Value→H} {w:World}
theorem cells_at {a:Addr} {n:Nat} {cs:List Value} (h:w.cells? 0 a n=some cs):cs.length=n∧∀ i u,cs[i]? = some u→w.cell? (a.add i)=some u:=by
 obtain ⟨_,h1,h2⟩:=World.cells?_some h
 exact ⟨h1,fun i u hu=>(h2 i (by rw [← h1];exact (List.getElem?_eq_some_iff.1 hu).1)).trans hu⟩
theorem add_add_ (a:Addr) (i j:Nat):(a.add i).add j=a.add (i+j):=by
 unfold Addr.add
 by_cases hi:i=0 <;> by_cases hj:j=0 <;> simp [hi,hj,Nat.add_assoc]
set_option maxRecDepth 100000 in
theorem open_raws (N:Nat):∀ (fuel:Nat) (cs:List Value) (x:DataW H × List MemPlace),SizeOf.sizeOf x.1 < N→DataW.trod enc Try.prog w 0 (fun _=>true) true fuel 43 cs=some x →
  (∀ n ∈ x.1.weights Try.prog 43,n≤reachBytes) →
  ∃ (A:Option Addr) (len cap:Nat) (l:List Raw),cs = [.slice A len cap]∧l.length=len∧len≤cap∧Kd.C k67 w A len l∧RawOk l:=by
 induction N with
 | zero=>intro _ _ _ h;exact absurd h (Nat.not_lt_zero _)
 | succ N ih =>
  intro fuel cs x hN h hw
  have cR:Try.prog.cellsOf 67=2:=by kernel_rfl
  have bR:Try.prog.bytesOf 67=40:=by kernel_rfl
  have cS:Try.prog.cellsOf 9=1:=by kernel_rfl
  have cL:Try.prog.cellsOf 43=1:=by kernel_rfl
  rcases open_slice Try.underlying43 h with ⟨rfl,rfl⟩|⟨a,len,cap,m,n,D,Pl,rfl,_,hl,hm,hmm,hx,hel⟩
  ·exact ⟨none,0,0,[],rfl,rfl,Nat.le_refl _,Kd.C_nil _ _,.mk _ (by simp) (by simp)⟩
  ·simp only [if_true] at hmm
   subst hmm
   rw [cR] at hel
   have hd:x.1=.slice ((List.range len).map D) ((List.range (m - len)).map fun j=>D (len+j)):=by rw [hx]
   rw [hd] at hw hN
   have hw0:len * 40≤reachBytes:=by
    have:=hw ((((List.range len).map D).length+((List.range (m - len)).map fun j=>D (len+j)).length) * 40) (by rw [DataW.weights,Try.underlying43];simp only [bR];exact List.mem_cons_self)
    simp only [List.length_map,List.length_range] at this
    omega
   have hwi:∀ i,i < len→∀ q ∈ (D i).weights Try.prog 67,q≤reachBytes:=by
    intro i hi q hq
    refine hw q ?_
    rw [DataW.weights,Try.underlying43]
    refine List.mem_cons_of_mem _ (List.mem_append_left _ ?_)
    have:∀ (L:List (DataW H)),D i ∈ L→q ∈ DataW.weightsAll Try.prog 67 L:=by
     intro L
     induction L with
     | nil=>simp
     | cons d L ih2 =>
      intro hm
      rw [DataW.weightsAll]
      rcases List.mem_cons.1 hm with e|hm
      ·exact List.mem_append_left _ (e ▸ hq)
      ·exact List.mem_append_right _ (ih2 hm)
    exact this _ (List.mem_map.2 ⟨i,List.mem_range.2 hi,rfl⟩)
   have hsz:∀ i,i < len→SizeOf.sizeOf (D i) < N:=by
    intro i hi
    have h1:SizeOf.sizeOf (D i) < SizeOf.sizeOf ((List.range len).map D):=List.sizeOf_lt_of_mem (List.mem_map.2 ⟨i,List.mem_range.2 hi,rfl⟩)
    have h2:SizeOf.sizeOf (DataW.slice ((List.range len).map D) ((List.range (m - len)).map fun j=>D (len+j)))=1+SizeOf.sizeOf ((List.range len).map D)+SizeOf.sizeOf ((List.range (m - len)).map fun j=>D (len+j)):=by simp
    omega
   obtain ⟨f,hf⟩:=choose_lt (α:=Raw) (n:=len) (p:=fun i q=>(∃ c,c.length=2∧k67.K w q c∧∀ j u,c[j]? = some u→w.cell? (a.add (i * 2+j))=some u)∧RawOk q.f1) (fun i hi=>by
    obtain ⟨c,hc1,hc2⟩:=hel i (by omega)
    obtain ⟨hcl,hcc⟩:=cells_at hc1
    have hD:=hwi i hi
    have hS:=hsz i hi
    obtain ⟨y0,y1,n2,hy,hl2,h0,h1⟩:=trod_struct2 Try.underlying67 hc2
    have hDi:D i=.agg [y0.1,y1.1]:=congrArg Prod.fst hy
    rw [hDi] at hD hS
    match c,hcl with
    | [u0,u1],_ =>
     simp only [cS,cL,List.drop_zero,List.drop_succ_cons,List.take_succ_cons,List.take_zero] at h0 h1
     obtain ⟨s,e0,_,_⟩:=DataW.trod_string Try.underlying9 h0
     obtain ⟨A1,len1,cap1,l1,e1,hl1,hc1',hC1,hR1⟩:=ih n2 _ y1 (by simp at hS;omega) h1 (fun q hq=>hD q (by
      rw [DataW.weights,Try.underlying67]
      simp only [List.map_cons,List.map_nil,DataW.weightsEach]
      exact List.mem_append_right _ (List.mem_append_left _ hq)))
     injection e0 with e0
     injection e1 with e1
     subst e0 e1 hl1
     refine ⟨⟨s,l1⟩,⟨_,rfl,k67_mk w ⟨s,l1⟩ hc1' hC1,fun j u hu=>?_⟩,hR1⟩
     have:=hcc j u hu
     rwa [add_add_] at this)
   refine ⟨some a,len,m,(List.range len).map f,rfl,by simp,hl,⟨by simp,by unfold maxLen at hm;omega,fun hp=>⟨a,rfl,fun j p hj=>?_⟩⟩,.mk _ (by simp;unfold reachBytes at hw0;omega) (fun q hq=>?_)⟩
   ·rw [List.getElem?_map] at hj
    obtain ⟨j',hj',rfl⟩:=Option.map_eq_some_iff.1 hj
    have hjl:j < len:=by have:=(List.getElem?_eq_some_iff.1 hj').1;simpa using this
    have:j'=j:=by rw [List.getElem?_range hjl] at hj';injection hj' with hj';exact hj'.symm
    subst this
    obtain ⟨c,h1,h2,h3⟩:=(hf j' hjl).1
    exact ⟨c,h1,h2,h3⟩
   ·obtain ⟨i,hi,rfl⟩:=List.mem_map.1 hq
    exact (hf i (List.mem_range.1 hi)).2
theorem open_raw {v:Value} {d:DataW H} {p:List MemPlace} {ts:List TypeId} {ds:List (DataW H)} {j:Nat} (hv:∃ A len cap,v=.slice A len cap) (h:DataW.Trod enc Try.prog w 0 (fun _=>true) true 43 v d p)
  (hsz:(DataW.weightsEach Try.prog ts ds).all (·≤ reachBytes)=true) (ht:ts[j]? = some 43) (hd:ds[j]? = some d) :
  ∃ (A:Option Addr) (cap:Nat) (l:List Raw),v=.slice A l.length cap∧l.length≤cap∧Kd.C k67 w A l.length l∧RawOk l:=by
 obtain ⟨A,len,cap,rfl⟩:=hv
 obtain ⟨fuel,hf⟩:=h
 obtain ⟨A',len',cap',l,e,hl,hc,hC,hR⟩:=open_raws (enc:=enc) (w:=w) _ fuel _ (d,p) (Nat.lt_succ_self _) hf (fun n hn=>by
  have:=List.all_eq_true.1 hsz _ (DataW.weights_mem_each ht hd n hn)
  simpa using this)
 simp only [Value.cells,List.cons.injEq,and_true,Value.slice.injEq] at e
 obtain ⟨rfl,rfl,rfl⟩:=e
 subst hl
 exact ⟨A,cap,l,rfl,hc,hC,hR⟩
end
end Go.Proofs.Ytoihiehoolehiaa.PX
namespace Go.Proofs.Ytoihiehoolehiaa.PX
open Go.RowKit Go.Proofs.YtoihiehoolehiaaW.PrintWords Go.Proofs.YtoihiehoolehiaaW.PrintLast Go.Proofs.YtoihiehoolehiaaW.PrintMore
attribute [local go_sem] max2_int min2_int max_two min_two max_three min_three max_four min_four   
set_option linter.unusedVariables false
set_option linter.unusedSimpArgs false
mutual
def cadencelaw2_Count.l0:Nat→List (S67)→Int→Int→Int→Option (Int)
 | 0,_,_,_,_=>none
 | k+1,x0,x1,x5,x6=>if x6 < (x0.length:Int) then (if x5 < x1 then (if 0≤x6 then ((cadencelaw2_Count.f k ((rd_T67 x0 x6).f1) (wrap64 (x1 - x5))).bind fun t250=>(cadencelaw2_Count.l0 k x0 x1 (wrap64 (x5+t250)) (wrap64 (x6+1)))) else (none)) else (some x5)) else (some x5)
def cadencelaw2_Count.f:Nat→List (S67)→Int→Option (Int)
 | 0,_,_=>none
 | k+1,l0,a1=>cadencelaw2_Count.l0 k l0 a1 (l0.length:Int) 0
end
theorem cadencelaw2_Count.mono_l:∀ k,(∀ y0 y1,LeO (cadencelaw2_Count.f k y0 y1) (cadencelaw2_Count.f (k+1) y0 y1))∧(∀ y0 y1 y2 y3,LeO (cadencelaw2_Count.l0 k y0 y1 y2 y3) (cadencelaw2_Count.l0 (k+1) y0 y1 y2 y3))
 | 0=>⟨fun _ _ r h=>by simp [cadencelaw2_Count.f] at h,fun _ _ _ _ r h=>by simp [cadencelaw2_Count.l0] at h⟩
 | k+1=>by
  obtain ⟨ih0,ih1⟩:=cadencelaw2_Count.mono_l k
  refine ⟨?_,?_⟩
  ·intro y0 y1
   unfold cadencelaw2_Count.f
   repeat' first
   | (with_reducible exact ih0 _ _)
   | (with_reducible exact ih1 _ _ _ _)
   | (with_reducible exact LeO.refl _)
   | (with_reducible exact LeO.none _)
   | (with_reducible refine LeO.ite ?_ ?_)
   | (with_reducible refine LeO.bind ?_ (fun _=>?_))
   | exact ih0 _ _
   | exact ih1 _ _ _ _
   | exact LeO.none _
   | refine LeO.ite ?_ ?_
   | refine LeO.bind ?_ (fun _=>?_)
  ·intro y0 y1 y2 y3
   unfold cadencelaw2_Count.l0
   repeat' first
   | (with_reducible exact ih0 _ _)
   | (with_reducible exact ih1 _ _ _ _)
   | (with_reducible exact LeO.refl _)
   | (with_reducible exact LeO.none _)
   | (with_reducible refine LeO.ite ?_ ?_)
   | (with_reducible refine LeO.bind ?_ (fun _=>?_))
   | exact ih0 _ _
   | exact ih1 _ _ _ _
   | exact LeO.none _
   | refine LeO.ite ?_ ?_
   | refine LeO.bind ?_ (fun _=>?_)
theorem cadencelaw2_Count.mono:∀ a0 a1 k,LeO (cadencelaw2_Count.f k a0 a1) (cadencelaw2_Count.f (k+1) a0 a1):=by
 intro a0 a1 k
 obtain ⟨ih0,ih1⟩:=cadencelaw2_Count.mono_l k
 exact ih0 a0 a1
set_option maxHeartbeats 8000000 in
set_option maxRecDepth 100000 in
theorem cadencelaw2_Count.calls (k:Nat):∀ (A0:Option Addr) (c0:Nat) (l0:List (S67)) (a1:Int) (r:Int) (w:World) (hr0:Kd.C k67 w A0 l0.length l0) (hc0:l0.length≤c0) (h:cadencelaw2_Count.f k l0 a1=some r),
  Calls Try.prog 30 #[.slice A0 l0.length c0,.int .i64 a1] w fun e w'=>e=.returned (.int .i64 r)∧Drawn0 w w':=by
 induction k using Nat.strongRecOn with
 | _ k ih =>
 intro A0 c0 l0 a1 r w hr0 hc0 h
 cases k with
 | zero=>exact absurd h (by simp [cadencelaw2_Count.f])
 | succ k =>
 simp only [cadencelaw2_Count.f] at h
 have HR0:=Aside0.mk hr0
 have HC0:=Aside0.mk hc0
 clear hr0 hc0
 have H:(cadencelaw2_Count.l0 k l0 a1 (l0.length:Int) 0)=some r:=h
 clear h
 have H':=Aside0.mk H
 clear H
 go_enter Try.func30,Try.ntmps30
 go_wp2
 go_loopg [5,6] k (fun kq v5 v6 w'=>∃ (x5_1:Int) (x6_1:Int),v5=.int .i64 x5_1∧v6=.int .i64 x6_1∧Aside0 (cadencelaw2_Count.l0 kq l0 a1 x5_1 x6_1=some r)∧Aside0 (kq≤k)∧Drawn0 w w')
 case atStart=>exact ⟨((l0.length:Int)),(0),(by first|rfl|(simp;done)|(simp [*];done)),(by first|rfl|(simp;done)|(simp [*];done)),H',⟨Nat.le_refl _⟩,by repeat (first|exact Drawn0.refl _|apply Drawn0.step)⟩
 case round =>
  clear H'
  try clear p2
  obtain ⟨x5_1,x6_1,rfl,rfl,HA,HK1,⟨m1,rfl⟩⟩:=hrel
  cases gk with
  | zero=>exact absurd HA.out (by simp [cadencelaw2_Count.l0])
  | succ k1 =>
   have H:=HA.out
   clear HA
   simp only [cadencelaw2_Count.l0] at H
   by_cases c3:x6_1 < (l0.length:Int)
   ·rw [if_pos c3] at H
    have c3b0:decide (x6_1 < (l0.length:Int))=true:=decide_eq_true c3
    clear c3
    by_cases c4:x5_1 < a1
    ·rw [if_pos c4] at H
     have c4b0:decide (x5_1 < a1)=true:=decide_eq_true c4
     clear c4
     by_cases c5:0≤x6_1
     ·rw [if_pos c5] at H
      have c5b0:decide (0≤x6_1)=true:=decide_eq_true c5
      clear c5
      replace H:=Option.bind_eq_some_iff.mp H
      obtain ⟨t250,A60,H⟩:=H
      replace H:(cadencelaw2_Count.l0 k1 l0 a1 (wrap64 (x5_1+t250)) (wrap64 (x6_1+1)))=some r:=H
      have A6:=Aside0.mk A60
      clear A60
      have H':=Aside0.mk H
      clear H
      have p249:0≤(x6_1:Int):=of_decide_eq_true (by first|(with_reducible assumption)|assumption)
      have q249:x6_1 < (l0.length:Int):=of_decide_eq_true (by first|(with_reducible assumption)|assumption)
      obtain ⟨ad249,A249_1,c249_1,e249,hx249_0,hx249_1,hl249_1,hi249_1⟩:=at_T67 HR0.out x6_1 p249 q249
      cases e249
      have HR249_1:=Aside0.mk hi249_1
      have HC249_1:=Aside0.mk hl249_1
      clear hi249_1 hl249_1
      replace p249:=eq_true p249
      replace q249:=eq_true q249
      go_wp2_with (first|((with_reducible refine gate_callee (f:=30) rfl ?_);refine goesL_ (some 29) rfl rfl Try.func30 (by kernel_rfl) rfl #[.slice A249_1 ((rd_T67 l0 x6_1).f1).length c249_1,.int .i64 (wrap64 (a1 - x5_1))] rfl (by (try simp only [List.map_toArray,List.map_cons,List.map_nil]);first|done|rfl|(simp only [List.length_drop,List.length_take];rfl)) ?_;(with_reducible refine (ih k1 (by have:=HK1.out;omega) _ _ ((rd_T67 l0 x6_1).f1) (wrap64 (a1 - x5_1)) t250 _ ?side1 ?side2 A6.out).mono ?_);(case side1=>repeat (first|exact HR249_1.out|(with_reducible refine cA_ ?_ _)|(with_reducible refine cN_ ?_ _)|(with_reducible refine cD_ ?_)));(case side2=>exact HC249_1.out);rintro e w' ⟨rfl,⟨nd,rfl⟩⟩;refine ⟨_,rfl,?_⟩))
      go_roundg k1
      case measure=>have:=HK1.out;omega
      case rel=>exact ⟨(wrap64 (x5_1+t250)),(wrap64 (x6_1+1)),(by first|rfl|(simp;done)|(simp [*];done)),(by first|rfl|(simp;done)|(simp [*];done)),H',⟨by have:=HK1.out;omega⟩,by repeat (first|exact Drawn0.refl _|apply Drawn0.step)⟩
     ·rw [if_neg c5] at H
      exact absurd H (by simp)
    ·rw [if_neg c4] at H
     have c4b0:decide (x5_1 < a1)=false:=decide_eq_false c4
     clear c4
     obtain rfl:=Option.some.inj H
     go_wp2
     go_ret
     exact ⟨by first|rfl|(simp;done)|(simp [*];done),by repeat (first|exact Drawn0.refl _|apply Drawn0.step)⟩
   ·rw [if_neg c3] at H
    have c3b0:decide (x6_1 < (l0.length:Int))=false:=decide_eq_false c3
    clear c3
    obtain rfl:=Option.some.inj H
    go_wp2
    go_ret
    exact ⟨by first|rfl|(simp;done)|(simp [*];done),by repeat (first|exact Drawn0.refl _|apply Drawn0.step)⟩
end Go.Proofs.Ytoihiehoolehiaa.PX
namespace Go.Proofs.Ytoihiehoolehiaa.PX
open Go.RowKit Go.Proofs.YtoihiehoolehiaaW.PrintWords Go.Proofs.YtoihiehoolehiaaW.PrintLast Go.Proofs.YtoihiehoolehiaaW.PrintMore
attribute [local go_sem] max2_int min2_int max_two min_two max_three min_three max_four min_four   
set_option linter.unusedVariables false
set_option linter.unusedSimpArgs false
def cadencelaw2_Few.f (k:Nat) (l0:List (S67)):Option (Bool):=(cadencelaw2_Count.f k l0 200).bind fun t251=>(some (decide (t251 < 200)))
theorem cadencelaw2_Few.mono:∀ a0 k,LeO (cadencelaw2_Few.f k a0) (cadencelaw2_Few.f (k+1) a0):=by
 intro a0 k
 unfold cadencelaw2_Few.f
 repeat' first
   | (with_reducible exact cadencelaw2_Count.mono _ _ _)
   | (with_reducible exact LeO.refl _)
   | (with_reducible exact LeO.none _)
   | (with_reducible refine LeO.ite ?_ ?_)
   | (with_reducible refine LeO.bind ?_ (fun _=>?_))
   | exact cadencelaw2_Count.mono _ _ _
   | exact LeO.none _
   | refine LeO.ite ?_ ?_
   | refine LeO.bind ?_ (fun _=>?_)
set_option maxHeartbeats 8000000 in
set_option maxRecDepth 100000 in
theorem cadencelaw2_Few.calls (k:Nat) (A0:Option Addr) (c0:Nat) (l0:List (S67)) (r:Bool) (w:World) (hr0:Kd.C k67 w A0 l0.length l0) (hc0:l0.length≤c0) (h:cadencelaw2_Few.f k l0=some r) :
  Calls Try.prog 14 #[.slice A0 l0.length c0] w fun e w'=>e=.returned (.bool r)∧Drawn0 w w':=by
 have HR0:=Aside0.mk hr0
 have HC0:=Aside0.mk hc0
 clear hr0 hc0
 have H:((cadencelaw2_Count.f k l0 200).bind fun t251=>(some (decide (t251 < 200))))=some r:=h
 clear h
 replace H:=Option.bind_eq_some_iff.mp H
 obtain ⟨t251,A20,H⟩:=H
 replace H:(some (decide (t251 < 200)))=some r:=H
 have A2:=Aside0.mk A20
 clear A20
 obtain rfl:=Option.some.inj H
 go_enter Try.func14,Try.ntmps14
 go_wp2_with (first|((with_reducible refine gate_callee (f:=30) rfl ?_);refine goesL_ (some 4) rfl rfl Try.func30 (by kernel_rfl) rfl #[.slice A0 l0.length c0,.int .i64 200] rfl (by (try simp only [List.map_toArray,List.map_cons,List.map_nil]);first|done|rfl|(simp only [List.length_drop,List.length_take];rfl)) ?_;(with_reducible refine (cadencelaw2_Count.calls k _ _ l0 200 t251 _ ?side1 ?side2 A2.out).mono ?_);(case side1=>repeat (first|exact HR0.out|(with_reducible refine cA_ ?_ _)|(with_reducible refine cN_ ?_ _)|(with_reducible refine cD_ ?_)));(case side2=>exact HC0.out);rintro e w' ⟨rfl,⟨nd,rfl⟩⟩;refine ⟨_,rfl,?_⟩))
 go_ret
 exact ⟨by first|rfl|(simp;done)|(simp [*];done),by repeat (first|exact Drawn0.refl _|apply Drawn0.step)⟩
end Go.Proofs.Ytoihiehoolehiaa.PX
set_option linter.unusedVariables false
namespace Go.Proofs.Ytoihiehoolehiaa.PX
open Go.RowKit Go.Proofs.YtoihiehoolehiaaW.PrintWords Go.Proofs.YtoihiehoolehiaaW.PrintLast Go.Proofs.YtoihiehoolehiaaW.PrintMore Go.Proofs.Ytoihiehoolehiaa
theorem rdRaw_nat {xs:List Raw} {i:Nat} (h:i < xs.length):rd_T67 xs (i:Int)=xs[i]:=by
 simp [rd_T67,List.getD_eq_getElem?_getD,h]
theorem count_ev {l:List Raw} (h:RawOk l):∀ m:Int,0≤m→m≤200→∃ c,(l.length:Int)≤c∧c≤m+3518437208832∧Ev (fun k=>cadencelaw2_Count.f k l m) c:=by
 induction h with
 | mk l hl hk ih =>
  intro m h0 h1
  have loop:∀ (d i:Nat) (n:Int),i+d=l.length→(l.length:Int)≤n→n≤m+3518437208832→∃ c,(l.length:Int)≤c∧c≤m+3518437208832∧Ev (fun k=>cadencelaw2_Count.l0 k l m n (i:Int)) c:=by
   intro d
   induction d with
   | zero =>
    intro i n hi hn0 hn1
    have e:∀ k,cadencelaw2_Count.l0 (k+1) l m n (i:Int)=some n:=fun k=>by
     simp only [cadencelaw2_Count.l0]
     rw [if_neg (by omega)]
    exact ⟨n,hn0,hn1,Ev.step e (Ev.now _)⟩
   | succ d ihd =>
    intro i n hi hn0 hn1
    have hil:i < l.length:=by omega
    by_cases hn:n < m
    ·obtain ⟨c1,a1,a2,a3⟩:=ih l[i] (List.getElem_mem hil) (m - n) (by omega) (by omega)
     obtain ⟨c2,b1,b2,b3⟩:=ihd (i+1) (n+c1) (by omega) (by omega) (by omega)
     have e:∀ k,cadencelaw2_Count.l0 (k+1) l m n (i:Int)=(cadencelaw2_Count.f k l[i].f1 (m - n)).bind fun t=>cadencelaw2_Count.l0 k l m (wrap64 (n+t)) ((i+1:Nat):Int):=fun k=>by
      simp only [cadencelaw2_Count.l0]
      rw [if_pos (by omega),if_pos hn,if_pos (by omega),rdRaw_nat hil,wrap_id (by omega) (by omega),wrap_succ (by omega)]
     refine ⟨c2,b1,b2,Ev.step e (Ev.bind a3 ?_)⟩
     rw [wrap_id (by omega) (by omega)]
     exact b3
    ·have e:∀ k,cadencelaw2_Count.l0 (k+1) l m n (i:Int)=some n:=fun k=>by
      simp only [cadencelaw2_Count.l0]
      rw [if_pos (by omega),if_neg hn]
     exact ⟨n,hn0,hn1,Ev.step e (Ev.now _)⟩
  obtain ⟨c,c1,c2,c3⟩:=loop l.length 0 l.length (by omega) (by omega) (by omega)
  exact ⟨c,c1,c2,Ev.step (fun k=>by simp only [cadencelaw2_Count.f];rfl) c3⟩
theorem few_ev {l:List Raw} (h:RawOk l):∃ b,(b=true→l.length < 200)∧Ev (fun k=>cadencelaw2_Few.f k l) b:=by
 obtain ⟨c,h1,_,hc⟩:=count_ev h 200 (by omega) (by omega)
 exact ⟨decide (c < 200),fun h=>by have:=of_decide_eq_true h;omega,Ev.bind hc (Ev.now _)⟩
theorem RawOk.kids {l:List Raw} (h:RawOk l):∀ x ∈ l,RawOk x.f1:=by
 cases h with
 | mk _ _ hk=>exact hk
theorem RawOk.len {l:List Raw} (h:RawOk l):l.length≤3518437208832:=by
 cases h with
 | mk _ hl _=>exact hl
theorem RawOk.append {l m:List Raw} (h:RawOk l) (h':RawOk m) (hl:l.length < 200) (hm:m.length < 200):RawOk (l ++ m) :=
 .mk _ (by rw [List.length_append];omega) (fun x hx=>by
  rcases List.mem_append.1 hx with hx|hx
  ·exact h.kids x hx
  ·exact h'.kids x hx)
theorem tmod_in (a:Int) {n:Int} (h0:0 < n) (h1:n≤1000000):∃ r,0≤r∧r < n∧(if Int.tmod a n < 0 then wrap64 (Int.tmod a n+n) else Int.tmod a n)=r:=by
 have h2:=Int.tmod_lt_of_pos a h0
 have h3:=Int.lt_tmod_of_pos a h0
 split
 ·exact ⟨Int.tmod a n+n,by omega,by omega,wrap_id (by omega) (by omega)⟩
 ·exact ⟨_,by omega,h2,rfl⟩
end Go.Proofs.Ytoihiehoolehiaa.PX
set_option linter.unusedVariables false
namespace Go.Proofs.Ytoihiehoolehiaa.PX
open Go.RowKit Go.Proofs.Ytoihiehoolehiaa
abbrev Edge:=S53
noncomputable instance:DecidableEq Edge:=fun a b=>Classical.propDecidable (a=b)
noncomputable instance:DecidableEq Tr:=fun a b=>Classical.propDecidable (a=b)
def kid:Tr→ByteArray→Option Tr
 | [],_=>none
 | y :: t,n=>if tl y.f0 < tl n then kid t n else if y.f0=n then some y.f1 else none
def withT:Tr→ByteArray→Tr→Tr
 | [],n,x=>[⟨n,x⟩]
 | y :: t,n,x=>if tl y.f0 < tl n then y :: withT t n x else if y.f0=n then ⟨n,x⟩ :: t else ⟨n,x⟩ :: y :: t
theorem lt_tri (x y:ByteArray) (h:¬ tl x < tl y) (h':x≠y):tl y < tl x:=by
 have h1:tl y≤tl x:=List.not_lt.1 h
 exact List.not_le.1 fun h2=>h' (tl_inj (List.le_antisymm h2 h1))
theorem hasAt_kid:∀ (t:Tr) (n:ByteArray),hasAt t n=(kid t n).isSome
 | [],_=>rfl
 | y :: t,n=>by
  unfold hasAt kid
  split
  ·exact hasAt_kid t n
  ·split <;> simp_all
theorem kid_pos:∀ (t:Tr) (n:ByteArray) (x:Tr),kid t n=some x→∃ h:pos t n < t.length,t[pos t n].f0=n∧t[pos t n].f1=x
 | [],_,_,h=>by cases h
 | y :: t,n,x,h=>by
  by_cases hy:tl y.f0 < tl n
  ·rw [kid,if_pos hy] at h
   obtain ⟨h1,h2,h3⟩:=kid_pos t n x h
   have e:pos (y :: t) n=pos t n+1:=by rw [pos,if_pos hy]
   refine ⟨by rw [e];simpa using h1,?_,?_⟩
   ·simp only [e,List.getElem_cons_succ];exact h2
   ·simp only [e,List.getElem_cons_succ];exact h3
  ·have e:pos (y :: t) n=0:=by rw [pos,if_neg hy]
   rw [kid,if_neg hy] at h
   split at h
   ·rename_i hn
    injection h with h
    refine ⟨by rw [e];simp,?_,?_⟩
    ·simp only [e,List.getElem_cons_zero];exact hn
    ·simp only [e,List.getElem_cons_zero];exact h
   ·cases h
theorem withT_eq:∀ (t:Tr) (n:ByteArray) (x:Tr),withT t n x=t.take (pos t n) ++ ⟨n,x⟩ :: t.drop (if hasAt t n then pos t n+1 else pos t n)
 | [],n,x=>by simp [withT,pos]
 | y :: t,n,x=>by
  by_cases hy:tl y.f0 < tl n
  ·have e1:hasAt (y :: t) n=hasAt t n:=by rw [hasAt,if_pos hy]
   have e2:pos (y :: t) n=pos t n+1:=by rw [pos,if_pos hy]
   rw [withT,if_pos hy,withT_eq t n x,e1,e2]
   cases hasAt t n <;> simp
  ·have e1:hasAt (y :: t) n=decide (y.f0=n):=by rw [hasAt,if_neg hy]
   have e2:pos (y :: t) n=0:=by rw [pos,if_neg hy]
   rw [withT,if_neg hy,e1,e2]
   by_cases hn:y.f0=n <;> simp [hn]
theorem withT_length (t:Tr) (n:ByteArray) (x:Tr):(withT t n x).length≤t.length+1:=by
 rw [withT_eq]
 have:=pos_le t n
 simp
 split <;> omega
theorem mem_withT:∀ {t:Tr} {n:ByteArray} {x:Tr} {z:Edge},z ∈ withT t n x→z=⟨n,x⟩∨z ∈ t
 | [],n,x,z,h=>by simpa [withT] using h
 | y :: t,n,x,z,h=>by
  unfold withT at h
  split at h
  ·rcases List.mem_cons.1 h with h|h
   ·exact .inr (h ▸ List.mem_cons_self)
   ·exact (mem_withT h).imp_right (List.mem_cons_of_mem _)
  ·split at h
   ·rcases List.mem_cons.1 h with h|h
    ·exact .inl h
    ·exact .inr (List.mem_cons_of_mem _ h)
   ·rcases List.mem_cons.1 h with h|h
    ·exact .inl h
    ·exact .inr h
theorem mem_kid:∀ {t:Tr} {n:ByteArray} {x:Tr},kid t n=some x→(⟨n,x⟩:Edge) ∈ t
 | [],n,x,h=>by cases h
 | y :: t,n,x,h=>by
  unfold kid at h
  split at h
  ·exact List.mem_cons_of_mem _ (mem_kid h)
  ·split at h
   ·rename_i hn
    injection h with h
    have:y=⟨n,x⟩:=by cases y;simp_all
    rw [this]
    exact List.mem_cons_self
   ·cases h
theorem sorted_withT:∀ {t:Tr} {n:ByteArray} {x:Tr},Sorted t→Sorted (withT t n x)
 | [],n,x,_=>List.pairwise_singleton _ _
 | y :: t,n,x,h=>by
  obtain ⟨h1,h2⟩:=List.pairwise_cons.1 h
  unfold withT
  split
  ·rename_i hy
   refine List.pairwise_cons.2 ⟨fun z hz=>?_,sorted_withT h2⟩
   rcases mem_withT hz with rfl|hz
   ·exact hy
   ·exact h1 z hz
  ·rename_i hy
   split
   ·rename_i hn
    subst hn
    exact List.pairwise_cons.2 ⟨h1,h2⟩
   ·rename_i hn
    have hlt:=lt_tri _ _ hy hn
    refine List.pairwise_cons.2 ⟨fun z hz=>?_,h⟩
    rcases List.mem_cons.1 hz with rfl|hz
    ·exact hlt
    ·exact List.lt_trans hlt (h1 z hz)
def Ok (W:Nat):Nat→Tr→Prop
 | 0,t=>t = []
 | d+1,t=>t.length≤W∧Sorted t∧∀ x ∈ t,Ok W d x.f1
theorem Ok.nil (W:Nat):∀ d,Ok W d []
 | 0=>rfl
 | d+1=>⟨Nat.zero_le _,List.Pairwise.nil,fun x h=>by cases h⟩
theorem Ok.succ {W:Nat} : ∀ {d:Nat} {t:Tr},Ok W d t→Ok W (d+1) t
 | 0,t,h=>by rw [show t = [] from h];exact Ok.nil W 1
 | d+1,t,h=>⟨h.1,h.2.1,fun x hx=>Ok.succ (h.2.2 x hx)⟩
theorem Ok.length {W d:Nat} {t:Tr} (h:Ok W d t):t.length≤W:=by
 cases d with
 | zero=>rw [show t = [] from h];exact Nat.zero_le _
 | succ d=>exact h.1
theorem Ok.sorted {W d:Nat} {t:Tr} (h:Ok W d t):Sorted t:=by
 cases d with
 | zero=>rw [show t = [] from h];exact List.Pairwise.nil
 | succ d=>exact h.2.1
theorem Ok.kid {W d:Nat} {t x:Tr} {n:ByteArray} (h:Ok W (d+1) t) (hk:PX.kid t n=some x):Ok W d x:=h.2.2 _ (mem_kid hk)
theorem Ok.withT {W d:Nat} {t x:Tr} {n:ByteArray} (h:Ok W (d+1) t) (hx:Ok W d x) (hl:(PX.withT t n x).length≤W):Ok W (d+1) (PX.withT t n x) :=
 ⟨hl,sorted_withT h.sorted,fun z hz=>by
  rcases mem_withT hz with rfl|hz
  ·exact hx
  ·exact h.2.2 z hz⟩
end Go.Proofs.Ytoihiehoolehiaa.PX
namespace Go.Proofs.Ytoihiehoolehiaa.PX
open Go.RowKit Go.Proofs.YtoihiehoolehiaaW.PrintWords Go.Proofs.YtoihiehoolehiaaW.PrintLast Go.Proofs.YtoihiehoolehiaaW.PrintMore
attribute [local go_sem] max2_int min2_int max_two min_two max_three min_three max_four min_four   
set_option linter.unusedVariables false
set_option linter.unusedSimpArgs false
def cadenceref2_At.l0:Nat→List (S53)→ByteArray→Int→Option (Int × Bool)
 | 0,_,_,_=>none
 | k+1,x0,x1,x6=>if x6 < (x0.length:Int) then (if 0≤x6 then (if (Op.bytesLess (((rd_T53 x0 x6).f0).toList) x1.toList)=true then (cadenceref2_At.l0 k x0 x1 (wrap64 (x6+1))) else (some (x6,(((rd_T53 x0 x6).f0).toList == x1.toList)))) else (none)) else (some (x6,false))
def cadenceref2_At.f (k:Nat) (l0:List (S53)) (a1:ByteArray):Option (Int × Bool):=cadenceref2_At.l0 k l0 a1 0
theorem cadenceref2_At.mono_l:∀ k,(∀ y0 y1 y2,LeO (cadenceref2_At.l0 k y0 y1 y2) (cadenceref2_At.l0 (k+1) y0 y1 y2))
 | 0=>fun _ _ _ r h=>by simp [cadenceref2_At.l0] at h
 | k+1=>by
  have ih0:=cadenceref2_At.mono_l k
  ·intro y0 y1 y2
   unfold cadenceref2_At.l0
   repeat' first
   | (with_reducible exact ih0 _ _ _)
   | (with_reducible exact LeO.refl _)
   | (with_reducible exact LeO.none _)
   | (with_reducible refine LeO.ite ?_ ?_)
   | (with_reducible refine LeO.bind ?_ (fun _=>?_))
   | exact ih0 _ _ _
   | exact LeO.none _
   | refine LeO.ite ?_ ?_
   | refine LeO.bind ?_ (fun _=>?_)
theorem cadenceref2_At.mono:∀ a0 a1 k,LeO (cadenceref2_At.f k a0 a1) (cadenceref2_At.f (k+1) a0 a1):=by
 intro a0 a1 k
 have ih0:=cadenceref2_At.mono_l k
 unfold cadenceref2_At.f
 repeat' first
   | (with_reducible exact ih0 _ _ _)
   | (with_reducible exact LeO.refl _)
   | (with_reducible exact LeO.none _)
   | (with_reducible refine LeO.ite ?_ ?_)
   | (with_reducible refine LeO.bind ?_ (fun _=>?_))
   | exact ih0 _ _ _
   | exact LeO.none _
   | refine LeO.ite ?_ ?_
   | refine LeO.bind ?_ (fun _=>?_)
set_option maxHeartbeats 8000000 in
set_option maxRecDepth 100000 in
theorem cadenceref2_At.calls (k:Nat) (A0:Option Addr) (c0:Nat) (l0:List (S53)) (a1:ByteArray) (r1:Int) (r2:Bool) (w:World) (hr0:Kd.C k53 w A0 l0.length l0) (hc0:l0.length≤c0) (h:cadenceref2_At.f k l0 a1=some (r1,r2)) :
  Calls Try.prog 52 #[.slice A0 l0.length c0,.string a1] w fun e w'=>e=.returned (.tuple #[.int .i64 r1,.bool r2])∧Drawn0 w w':=by
 have HR0:=Aside0.mk hr0
 have HC0:=Aside0.mk hc0
 clear hr0 hc0
 have H:(cadenceref2_At.l0 k l0 a1 0)=some (r1,r2):=h
 clear h
 have H':=Aside0.mk H
 clear H
 go_enter Try.func52,Try.ntmps52
 go_wp2
 repeat (go_quiet (fail);try go_wp2)
 go_loopg [6] k (fun kq v6 w'=>∃ (x6_1:Int),v6=.int .i64 x6_1∧Aside0 (cadenceref2_At.l0 kq l0 a1 x6_1=some (r1,r2))∧Aside0 (kq≤k)∧Drawn0 w w')
 case atStart=>exact ⟨(0),(by first|rfl|(simp;done)|(simp [*];done)),H',⟨Nat.le_refl _⟩,by repeat (first|exact Drawn0.refl _|apply Drawn0.step)⟩
 case round =>
  clear H'
  try clear p2
  obtain ⟨x6_1,rfl,HA,HK1,⟨m1,rfl⟩⟩:=hrel
  cases gk with
  | zero=>exact absurd HA.out (by simp [cadenceref2_At.l0])
  | succ k1 =>
   have H:=HA.out
   clear HA
   simp only [cadenceref2_At.l0] at H
   by_cases c3:x6_1 < (l0.length:Int)
   ·rw [if_pos c3] at H
    have c3b0:decide (x6_1 < (l0.length:Int))=true:=decide_eq_true c3
    clear c3
    by_cases c4:0≤x6_1
    ·rw [if_pos c4] at H
     have c4b0:decide (0≤x6_1)=true:=decide_eq_true c4
     clear c4
     by_cases c5:(Op.bytesLess (((rd_T53 l0 x6_1).f0).toList) a1.toList)=true
     ·rw [if_pos c5] at H
      have c5b0:(Op.bytesLess (((rd_T53 l0 x6_1).f0).toList) a1.toList)=true:=c5
      clear c5
      have H':=Aside0.mk H
      clear H
      have p252:0≤(x6_1:Int):=of_decide_eq_true (by first|(with_reducible assumption)|assumption)
      have q252:x6_1 < (l0.length:Int):=of_decide_eq_true (by first|(with_reducible assumption)|assumption)
      obtain ⟨ad252,A252_1,c252_1,e252,hx252_0,hx252_1,hl252_1,hi252_1⟩:=at_T53 HR0.out x6_1 p252 q252
      cases e252
      have HR252_1:=Aside0.mk hi252_1
      have HC252_1:=Aside0.mk hl252_1
      clear hi252_1 hl252_1
      replace p252:=eq_true p252
      replace q252:=eq_true q252
      go_wp2
      repeat (go_quiet (fail);try go_wp2)
      go_roundg k1
      case measure=>have:=HK1.out;omega
      case rel=>exact ⟨(wrap64 (x6_1+1)),(by first|rfl|(simp;done)|(simp [*];done)),H',⟨by have:=HK1.out;omega⟩,by repeat (first|exact Drawn0.refl _|apply Drawn0.step)⟩
     ·rw [if_neg c5] at H
      have c5b0:(Op.bytesLess (((rd_T53 l0 x6_1).f0).toList) a1.toList)=false:=by simpa using c5
      clear c5
      simp only [Option.some.injEq,Prod.mk.injEq] at H
      obtain ⟨rfl,rfl⟩:=H
      have p252:0≤(x6_1:Int):=of_decide_eq_true (by first|(with_reducible assumption)|assumption)
      have q252:x6_1 < (l0.length:Int):=of_decide_eq_true (by first|(with_reducible assumption)|assumption)
      obtain ⟨ad252,A252_1,c252_1,e252,hx252_0,hx252_1,hl252_1,hi252_1⟩:=at_T53 HR0.out x6_1 p252 q252
      cases e252
      have HR252_1:=Aside0.mk hi252_1
      have HC252_1:=Aside0.mk hl252_1
      clear hi252_1 hl252_1
      replace p252:=eq_true p252
      replace q252:=eq_true q252
      have p253:0≤(x6_1:Int):=of_decide_eq_true (by first|(with_reducible assumption)|assumption)
      have q253:x6_1 < (l0.length:Int):=of_decide_eq_true (by first|(with_reducible assumption)|assumption)
      obtain ⟨ad253,A253_1,c253_1,e253,hx253_0,hx253_1,hl253_1,hi253_1⟩:=at_T53 HR0.out x6_1 p253 q253
      obtain rfl:ad252=ad253:=(by injection e253)
      have HR253_1:=Aside0.mk hi253_1
      have HC253_1:=Aside0.mk hl253_1
      clear hi253_1 hl253_1
      replace p253:=eq_true p253
      replace q253:=eq_true q253
      have ea_:=Option.some.inj (hx252_1.symm.trans hx253_1)
      injection ea_ with ea_ en_ ec_
      subst ea_
      subst ec_
      clear en_
      go_wp2
      repeat (go_quiet (fail);try go_wp2)
      go_ret2
      exact ⟨by first|rfl|(simp;done)|(simp [*];done),by repeat (first|exact Drawn0.refl _|apply Drawn0.step)⟩
    ·rw [if_neg c4] at H
     exact absurd H (by simp)
   ·rw [if_neg c3] at H
    have c3b0:decide (x6_1 < (l0.length:Int))=false:=decide_eq_false c3
    clear c3
    simp only [Option.some.injEq,Prod.mk.injEq] at H
    obtain ⟨rfl,rfl⟩:=H
    go_wp2
    repeat (go_quiet (fail);try go_wp2)
    go_ret2
    exact ⟨by first|rfl|(simp;done)|(simp [*];done),by repeat (first|exact Drawn0.refl _|apply Drawn0.step)⟩
end Go.Proofs.Ytoihiehoolehiaa.PX
namespace Go.Proofs.Ytoihiehoolehiaa.PX
open Go.RowKit Go.Proofs.YtoihiehoolehiaaW.PrintWords Go.Proofs.YtoihiehoolehiaaW.PrintLast Go.Proofs.YtoihiehoolehiaaW.PrintMore
attribute [local go_sem] max2_int min2_int max_two min_two max_three min_three max_four min_four   
set_option linter.unusedVariables false
set_option linter.unusedSimpArgs false
def cadenceref2_With.f (k:Nat) (l0:List (S53)) (a1:ByteArray) (l2:List (S53)):Option ((List (S53))):=(cadenceref2_At.f k l0 a1).bind fun bt254=>(if 0≤bt254.1 then (if bt254.1≤(l0.length:Int) then ((some (l0.take (bt254.1:Int).toNat:List (S53))).bind fun y256=>(if ([]:List (S53)).length+y256.length < 3518437208883 then ((some (([]:List (S53)) ++ y256:List (S53))).bind fun y261=>(if y261.length < 3518437208883 then ((some (y261 ++ [(⟨a1,l2⟩:S53)]:List (S53))).bind fun y264=>(if bt254.2=true then (if 0≤(wrap64 (bt254.1+1)) then (if (wrap64 (bt254.1+1))≤(l0.length:Int) then ((some (l0.drop ((wrap64 (bt254.1+1)):Int).toNat:List (S53))).bind fun y267=>(if y264.length+y267.length < 3518437208883 then (some (y264 ++ y267)) else (none))) else (none)) else (none)) else ((some (l0.drop (bt254.1:Int).toNat:List (S53))).bind fun y275=>(if y264.length+y275.length < 3518437208883 then (some (y264 ++ y275)) else (none))))) else (none))) else (none))) else (none)) else (none))
theorem cadenceref2_With.mono:∀ a0 a1 a2 k,LeO (cadenceref2_With.f k a0 a1 a2) (cadenceref2_With.f (k+1) a0 a1 a2):=by
 intro a0 a1 a2 k
 unfold cadenceref2_With.f
 repeat' first
   | (with_reducible exact cadenceref2_At.mono _ _ _)
   | (with_reducible exact LeO.refl _)
   | (with_reducible exact LeO.none _)
   | (with_reducible refine LeO.ite ?_ ?_)
   | (with_reducible refine LeO.bind ?_ (fun _=>?_))
   | exact cadenceref2_At.mono _ _ _
   | exact LeO.none _
   | refine LeO.ite ?_ ?_
   | refine LeO.bind ?_ (fun _=>?_)
set_option maxHeartbeats 8000000 in
set_option maxRecDepth 100000 in
theorem cadenceref2_With.calls (k:Nat) (P0_:Nat→Prop) (A0:Option Addr) (c0:Nat) (l0:List (S53)) (a1:ByteArray) (P2_:Nat→Prop) (A2:Option Addr) (c2:Nat) (l2:List (S53)) (r:List (S53)) (w:World) (hs0:Kd.V k53 53 w w.heap.size (fun k_=>P0_ k_) (.slice A0 l0.length c0) l0) (hs2:Kd.V k53 53 w w.heap.size (fun k_=>P2_ k_) (.slice A2 l2.length c2) l2) (h:cadenceref2_With.f k l0 a1 l2=some r) :
  Calls Try.prog 31 #[.slice A0 l0.length c0,.string a1,.slice A2 l2.length c2] w fun e w'=>∃ v0_:Value,e=.returned (v0_)∧Kd.N k53 53 w' w.heap.size (fun k_=>((P0_ k_∨P2_ k_)∨w.heap.size≤k_)) v0_ r∧Below w.heap.size w w':=by
 have hu53:=Try.underlying53
 have HO0:=Aside0.mk (show Kd.V k53 53 w w.heap.size (fun k_=>((P0_ k_∨P2_ k_)∨w.heap.size≤k_)) (.slice A0 l0.length c0) l0 from Kd.V_mono hs0 (fun k_ hk=>.inl (.inl hk)))
 have HO2:=Aside0.mk (show Kd.V k53 53 w w.heap.size (fun k_=>((P0_ k_∨P2_ k_)∨w.heap.size≤k_)) (.slice A2 l2.length c2) l2 from Kd.V_mono hs2 (fun k_ hk=>.inl (.inr hk)))
 have HB:=Aside0.mk (Below.refl w.heap.size w)
 have H:((cadenceref2_At.f k l0 a1).bind fun bt254=>(if 0≤bt254.1 then (if bt254.1≤(l0.length:Int) then ((some (l0.take (bt254.1:Int).toNat:List (S53))).bind fun y256=>(if ([]:List (S53)).length+y256.length < 3518437208883 then ((some (([]:List (S53)) ++ y256:List (S53))).bind fun y261=>(if y261.length < 3518437208883 then ((some (y261 ++ [(⟨a1,l2⟩:S53)]:List (S53))).bind fun y264=>(if bt254.2=true then (if 0≤(wrap64 (bt254.1+1)) then (if (wrap64 (bt254.1+1))≤(l0.length:Int) then ((some (l0.drop ((wrap64 (bt254.1+1)):Int).toNat:List (S53))).bind fun y267=>(if y264.length+y267.length < 3518437208883 then (some (y264 ++ y267)) else (none))) else (none)) else (none)) else ((some (l0.drop (bt254.1:Int).toNat:List (S53))).bind fun y275=>(if y264.length+y275.length < 3518437208883 then (some (y264 ++ y275)) else (none))))) else (none))) else (none))) else (none)) else (none)))=some r:=h
 clear h
 replace H:=Option.bind_eq_some_iff.mp H
 obtain ⟨⟨t254,t255⟩,A40,H⟩:=H
 replace H:(if 0≤t254 then (if t254≤(l0.length:Int) then ((some (l0.take (t254:Int).toNat:List (S53))).bind fun y256=>(if ([]:List (S53)).length+y256.length < 3518437208883 then ((some (([]:List (S53)) ++ y256:List (S53))).bind fun y261=>(if y261.length < 3518437208883 then ((some (y261 ++ [(⟨a1,l2⟩:S53)]:List (S53))).bind fun y264=>(if t255=true then (if 0≤(wrap64 (t254+1)) then (if (wrap64 (t254+1))≤(l0.length:Int) then ((some (l0.drop ((wrap64 (t254+1)):Int).toNat:List (S53))).bind fun y267=>(if y264.length+y267.length < 3518437208883 then (some (y264 ++ y267)) else (none))) else (none)) else (none)) else ((some (l0.drop (t254:Int).toNat:List (S53))).bind fun y275=>(if y264.length+y275.length < 3518437208883 then (some (y264 ++ y275)) else (none))))) else (none))) else (none))) else (none)) else (none))=some r:=H
 have A4:=Aside0.mk A40
 clear A40
 by_cases c5:0≤t254
 ·rw [if_pos c5] at H
  have c5b0:=eq_true c5
  have c5b1:decide (0≤t254)=true:=decide_eq_true c5
  clear c5
  by_cases c6:t254≤(l0.length:Int)
  ·rw [if_pos c6] at H
   have c6b0:=eq_true c6
   have c6b1:decide (t254≤(l0.length:Int))=true:=decide_eq_true c6
   clear c6
   obtain ⟨y256,hy256⟩:∃ y_:List (S53),y_=(l0.take (t254:Int).toNat):=⟨_,rfl⟩
   replace H:(if ([]:List (S53)).length+y256.length < 3518437208883 then ((some (([]:List (S53)) ++ y256:List (S53))).bind fun y261=>(if y261.length < 3518437208883 then ((some (y261 ++ [(⟨a1,l2⟩:S53)]:List (S53))).bind fun y264=>(if t255=true then (if 0≤(wrap64 (t254+1)) then (if (wrap64 (t254+1))≤(l0.length:Int) then ((some (l0.drop ((wrap64 (t254+1)):Int).toNat:List (S53))).bind fun y267=>(if y264.length+y267.length < 3518437208883 then (some (y264 ++ y267)) else (none))) else (none)) else (none)) else ((some (l0.drop (t254:Int).toNat:List (S53))).bind fun y275=>(if y264.length+y275.length < 3518437208883 then (some (y264 ++ y275)) else (none))))) else (none))) else (none))=some r:=by first|(rw [hy256];with_reducible exact H)|(have H2_:=(Option.bind_some _ _).symm.trans H;rw [hy256];with_reducible exact H2_)|(have H2_:=(Option.bind_some _ _).symm.trans H;with_reducible exact H2_)|with_reducible exact H|(rw [hy256];exact H)|exact H
   have Ny256:=Aside0.mk hy256
   clear hy256
   by_cases c7:([]:List (S53)).length+y256.length < 3518437208883
   ·rw [if_pos c7] at H
    have LMc7:=Aside0.mk c7
    clear c7
    obtain ⟨y261,hy261⟩:∃ y_:List (S53),y_=(([]:List (S53)) ++ y256):=⟨_,rfl⟩
    replace H:(if y261.length < 3518437208883 then ((some (y261 ++ [(⟨a1,l2⟩:S53)]:List (S53))).bind fun y264=>(if t255=true then (if 0≤(wrap64 (t254+1)) then (if (wrap64 (t254+1))≤(l0.length:Int) then ((some (l0.drop ((wrap64 (t254+1)):Int).toNat:List (S53))).bind fun y267=>(if y264.length+y267.length < 3518437208883 then (some (y264 ++ y267)) else (none))) else (none)) else (none)) else ((some (l0.drop (t254:Int).toNat:List (S53))).bind fun y275=>(if y264.length+y275.length < 3518437208883 then (some (y264 ++ y275)) else (none))))) else (none))=some r:=by first|(rw [hy261];with_reducible exact H)|(have H2_:=(Option.bind_some _ _).symm.trans H;rw [hy261];with_reducible exact H2_)|(have H2_:=(Option.bind_some _ _).symm.trans H;with_reducible exact H2_)|with_reducible exact H|(rw [hy261];exact H)|exact H
    have Ny261:=Aside0.mk hy261
    clear hy261
    by_cases c8:y261.length < 3518437208883
    ·rw [if_pos c8] at H
     have LMc8:=Aside0.mk c8
     clear c8
     obtain ⟨y264,hy264⟩:∃ y_:List (S53),y_=(y261 ++ [(⟨a1,l2⟩:S53)]):=⟨_,rfl⟩
     replace H:(if t255=true then (if 0≤(wrap64 (t254+1)) then (if (wrap64 (t254+1))≤(l0.length:Int) then ((some (l0.drop ((wrap64 (t254+1)):Int).toNat:List (S53))).bind fun y267=>(if y264.length+y267.length < 3518437208883 then (some (y264 ++ y267)) else (none))) else (none)) else (none)) else ((some (l0.drop (t254:Int).toNat:List (S53))).bind fun y275=>(if y264.length+y275.length < 3518437208883 then (some (y264 ++ y275)) else (none))))=some r:=by first|(rw [hy264];with_reducible exact H)|(have H2_:=(Option.bind_some _ _).symm.trans H;rw [hy264];with_reducible exact H2_)|(have H2_:=(Option.bind_some _ _).symm.trans H;with_reducible exact H2_)|with_reducible exact H|(rw [hy264];exact H)|exact H
     have Ny264:=Aside0.mk hy264
     clear hy264
     by_cases c9:t255=true
     ·subst c9
      have H1:(if 0≤(wrap64 (t254+1)) then (if (wrap64 (t254+1))≤(l0.length:Int) then ((some (l0.drop ((wrap64 (t254+1)):Int).toNat:List (S53))).bind fun y267=>(if y264.length+y267.length < 3518437208883 then (some (y264 ++ y267)) else (none))) else (none)) else (none))=some r:=by rw [if_pos rfl] at H;exact H
      clear H
      have H:=H1
      clear H1
      obtain ⟨ji10,hji10⟩:∃ j_:Int,(wrap64 (t254+1))=j_:=⟨_,rfl⟩
      replace H:(if 0≤(ji10) then (if (ji10)≤(l0.length:Int) then ((some (l0.drop ((ji10):Int).toNat:List (S53))).bind fun y267=>(if y264.length+y267.length < 3518437208883 then (some (y264 ++ y267)) else (none))) else (none)) else (none))=some r:=by first|(rw [hji10] at H;exact H)|(simp only [hji10] at H ⊢;exact H)
      (try rw [hji10] at A4)
      have hji10w:(IntKind.i64.wrap (t254+1))=ji10:=(i64_w _).trans hji10
      by_cases c11:0≤(ji10)
      ·rw [if_pos c11] at H
       have c11b0:=eq_true c11
       have c11b1:decide (0≤(ji10))=true:=decide_eq_true c11
       clear c11
       by_cases c12:(ji10)≤(l0.length:Int)
       ·rw [if_pos c12] at H
        have c12b0:=eq_true c12
        have c12b1:decide ((ji10)≤(l0.length:Int))=true:=decide_eq_true c12
        clear c12
        obtain ⟨y267,hy267⟩:∃ y_:List (S53),y_=(l0.drop ((ji10):Int).toNat):=⟨_,rfl⟩
        replace H:(if y264.length+y267.length < 3518437208883 then (some (y264 ++ y267)) else (none))=some r:=by first|(rw [hy267];with_reducible exact H)|(have H2_:=(Option.bind_some _ _).symm.trans H;rw [hy267];with_reducible exact H2_)|(have H2_:=(Option.bind_some _ _).symm.trans H;with_reducible exact H2_)|with_reducible exact H|(rw [hy267];exact H)|exact H
        have Ny267:=Aside0.mk hy267
        clear hy267
        by_cases c13:y264.length+y267.length < 3518437208883
        ·rw [if_pos c13] at H
         have LMc13:=Aside0.mk c13
         clear c13
         obtain ⟨y272,hy272⟩:∃ y_:List (S53),y_=(y264 ++ y267):=⟨_,rfl⟩
         replace H:(some y272)=some r:=by first|(rw [hy272];with_reducible exact H)|(have H2_:=(Option.bind_some _ _).symm.trans H;rw [hy272];with_reducible exact H2_)|(have H2_:=(Option.bind_some _ _).symm.trans H;with_reducible exact H2_)|with_reducible exact H|(rw [hy272];exact H)|exact H
         have Ny272:=Aside0.mk hy272
         clear hy272
         obtain rfl:=Option.some.inj H
         go_enter Try.func31,Try.ntmps31
         go_wp2_with (first|((with_reducible refine gate_callee (f:=52) rfl ?_);refine goesL_ (some 13) rfl rfl Try.func52 (by kernel_rfl) rfl #[.slice A0 l0.length c0,.string a1] rfl (by (try simp only [List.map_toArray,List.map_cons,List.map_nil]);first|done|rfl|(simp only [List.length_drop,List.length_take];rfl)) ?_;(with_reducible refine (cadenceref2_At.calls k _ _ l0 a1 t254 true _ ?side1 ?side2 A4.out).mono ?_);(case side1=>repeat (first|exact (Kd.V_reads' HO0.out).2.2|(with_reducible refine cA_ ?_ _)|(with_reducible refine cN_ ?_ _)|(with_reducible refine cD_ ?_)));(case side2=>exact (Kd.V_reads' HO0.out).2.1);rintro e w' ⟨rfl,⟨nd,rfl⟩⟩;refine ⟨_,rfl,?_⟩;have q14:(t254:Int)≤((l0.length:Int):Int):=of_decide_eq_true (by first|(with_reducible assumption)|assumption);obtain ⟨i014,hi014,_,hsz14,_⟩:=info_parts info53;have hroom14:l0.length≤c0:=(Kd.V_reads' HO0.out).2.1;have hC14:Kd.F k53 _ _ A0 l0.length l0:=(Kd.V_at (base:=w.heap.size) HO0.out).2.2;have hcut14:=cut_to (P:=Try.prog) 46 53 .i64 Try.underlying46 hi014 A0 l0.length c0 t254 (of_decide_eq_true (by first|(with_reducible assumption)|assumption)) q14 hroom14;have hr14:=Kd.F_take (m:=(t254:Int).toNat) hC14 (by omega);have hy14:y256.length=(t254:Int).toNat:=(by rw [Ny256.out,List.length_take];omega);rw [← Ny256.out] at hr14;rw [← hy14] at hcut14;have HO260:=Aside0.mk (show Kd.V k53 53 _ w.heap.size _ (.slice A0 y256.length c0) y256 from Kd.V_mk (by omega) hr14);have HC260:=Aside0.mk (show y256.length≤c0 from by omega);clear hr14 hC14 hroom14 hi014 hsz14;have KY14:=Aside0.mk hy14;clear hy14;replace q14:=eq_true q14)|((with_reducible refine gate_builtin (b:=.append) (xs:=#[.tmp 16,.tmp 19]) rfl ?_);at_builtin;refine Kd.N_append_rows k53 (w0:=w) w.heap.size rfl (.tmp 16) (.tmp 19) 46 53 (.agg #[(.string ⟨#[]⟩),(.slice none 0 0)]) 40 rfl Try.underlying46 info53 rfl (by decide) (by omega) (.slice none 0 0) ([]:List (S53)) y256 _ _ _ (fun k_=>((P0_ k_∨P2_ k_)∨w.heap.size≤k_)) (fun k_=>((fun k_=>((P0_ k_∨P2_ k_)∨w.heap.size≤k_))) k_∧some k_≠(.slice none 0 0:Value).ownBlock) rfl rfl ?aO ?aR (fun _ hk=>hk) ?aF ?aB ?aS ?aL ?_;(case aR=>exact (by (with_reducible repeat (first|apply Kd.F_alloc|apply Kd.F_drewN|apply Kd.F_drew));exact Kd.V_F (Kd.V_mono (ok':=(fun k_=>((fun k_=>((P0_ k_∨P2_ k_)∨w.heap.size≤k_))) k_∧some k_≠(.slice none 0 0:Value).ownBlock)) (HO260.out) (fun k_ hk=>⟨hk,(by simp [Value.ownBlock])⟩))));(case aB=>exact (by repeat (first|(with_reducible first|exact HB.out|apply bA_|apply bN_|apply bD_)|exact HB.out)));(case aF=>exact (fun k_ hk=>(.inr (Nat.le_trans (below_size (by repeat (first|(with_reducible first|exact HB.out|apply bA_|apply bN_|apply bD_)|exact HB.out))) hk))));(case aO=>exact ((Kd.N_nil _ _ _ _ (fun k_=>((P0_ k_∨P2_ k_)∨w.heap.size≤k_)))));(case aS=>exact (below_size (by repeat (first|(with_reducible first|exact HB.out|apply bA_|apply bN_|apply bD_)|exact HB.out))));(case aL=>have:=LMc7.out;omega);intro v262 w15 ho hb hg hat;rw [← Ny261.out] at ho;have n0_:=Aside0.mk (Kd.V_afterv (Kd.V_apart_nil (by (with_reducible repeat (first|apply vA_|apply vN_|apply vD_));exact HO0.out)) hg hat);have n1_:=Aside0.mk (Kd.V_afterv (Kd.V_apart_nil (by (with_reducible repeat (first|apply vA_|apply vN_|apply vD_));exact HO2.out)) hg hat);have n2_:=Aside0.mk (Kd.V_afterv (Kd.V_apart_nil (by (with_reducible repeat (first|apply vA_|apply vN_|apply vD_));exact HO260.out)) hg hat);have n3_:=Aside0.mk (hb);have n4_:=Aside0.mk (ho);clear HO0;clear HO2;clear HO260;clear HB;have HO0:=n0_;have HO2:=n1_;have HO260:=n2_;have HB:=n3_;have HO263:=n4_;clear n0_ n1_ n2_ n3_ n4_;clear ho hb hg hat)|((with_reducible refine gate_builtin (b:=.append) (xs:=#[.tmp 21,.tmp 25]) rfl ?_);at_builtin;refine Kd.N_append k53 (w0:=w) w.heap.size rfl (.tmp 21) (.tmp 25) 46 53 (.agg #[(.string ⟨#[]⟩),(.slice none 0 0)]) 40 rfl Try.underlying46 info53 rfl (by decide) (by omega) v262 y261 (⟨a1,l2⟩:S53) [.string a1,.slice A2 l2.length c2] (fun k_=>((P0_ k_∨P2_ k_)∨w.heap.size≤k_)) (fun k_=>((fun k_=>((P0_ k_∨P2_ k_)∨w.heap.size≤k_))) k_∧some k_≠(v262:Value).ownBlock) rfl rfl ?aP (fun _ hk=>hk) ?aF ?aO ?aB ?aS ?aL ?_;(case aP=>exact (k53_mkF _ _ (⟨a1,l2⟩:S53) (Kd.V_reads' (Kd.V_mono (ok':=(fun k_=>((fun k_=>((P0_ k_∨P2_ k_)∨w.heap.size≤k_))) k_∧some k_≠(v262:Value).ownBlock)) (HO2.out) (fun k_ hk=>⟨hk.1,hk.2⟩))).2.1 (Kd.V_F (Kd.V_mono (ok':=(fun k_=>((fun k_=>((P0_ k_∨P2_ k_)∨w.heap.size≤k_))) k_∧some k_≠(v262:Value).ownBlock)) (HO2.out) (fun k_ hk=>⟨hk.1,hk.2⟩)))));(case aB=>exact (by repeat (first|(with_reducible first|exact HB.out|apply bA_|apply bN_|apply bD_)|exact HB.out)));(case aF=>exact (fun k_ hk=>(.inr (Nat.le_trans (below_size (by repeat (first|(with_reducible first|exact HB.out|apply bA_|apply bN_|apply bD_)|exact HB.out))) hk))));(case aO=>exact (by (with_reducible repeat (first|apply nA_|apply nN_|apply nD_));exact HO263.out));(case aS=>exact (below_size (by repeat (first|(with_reducible first|exact HB.out|apply bA_|apply bN_|apply bD_)|exact HB.out))));(case aL=>have:=LMc8.out;omega);intro v265 w16 ho hb hg hat;rw [← Ny264.out] at ho;have n0_:=Aside0.mk (Kd.V_afterv (ok:=(fun k_=>((P0_ k_∨P2_ k_)∨w.heap.size≤k_))) (by (with_reducible repeat (first|apply vA_|apply vN_|apply vD_));exact HO0.out) hg hat);have n1_:=Aside0.mk (Kd.V_afterv (ok:=(fun k_=>((P0_ k_∨P2_ k_)∨w.heap.size≤k_))) (by (with_reducible repeat (first|apply vA_|apply vN_|apply vD_));exact HO2.out) hg hat);have n2_:=Aside0.mk (Kd.V_afterv (ok:=(fun k_=>((P0_ k_∨P2_ k_)∨w.heap.size≤k_))) (by (with_reducible repeat (first|apply vA_|apply vN_|apply vD_));exact HO260.out) hg hat);have n3_:=Aside0.mk (hb);have n4_:=Aside0.mk (ho);clear HO0;clear HO2;clear HO260;clear HB;clear HO263;have HO0:=n0_;have HO2:=n1_;have HO260:=n2_;have HB:=n3_;have HO266:=n4_;clear n0_ n1_ n2_ n3_ n4_;clear ho hb hg hat;have q17:((ji10):Int)≤((l0.length:Int):Int):=of_decide_eq_true (by first|(with_reducible assumption)|assumption);obtain ⟨i017,hi017,_,hsz17,_⟩:=info_parts info53;have hroom17:l0.length≤c0:=(Kd.V_reads' HO0.out).2.1;have hC17:Kd.F k53 _ _ A0 l0.length l0:=(Kd.V_at (base:=w.heap.size) HO0.out).2.2;have q017:(0:Int)≤((ji10):Int):=of_decide_eq_true (by first|(with_reducible assumption)|assumption);have hcut17:=cut_from (P:=Try.prog) 46 53 .i64 Try.underlying46 hi017 2 hsz17 A0 l0.length c0 (ji10) q017 q17;have hr17:=Kd.F_cut (m:=((ji10):Int).toNat) (c:=c0) hC17 (by omega) hroom17;obtain ⟨A17,hA17⟩:∃ A1,A1=(if c0=((ji10):Int).toNat then A0 else (A0:Option Addr).map (·.add (((ji10):Int).toNat * 2))):=⟨_,rfl⟩;obtain ⟨c17,hc17⟩:∃ c1,c1=c0 - ((ji10):Int).toNat:=⟨_,rfl⟩;have hy17:y267.length=l0.length - ((ji10):Int).toNat:=(by rw [Ny267.out,List.length_drop] <;> omega);rw [show (l0).drop ((ji10):Int).toNat=y267 from Ny267.out.symm] at hr17;replace hr17:Kd.F k53 _ _ A17 y267.length y267:=(by rw [hA17];exact hr17);rw [← hy17,← hA17,← hc17] at hcut17;have HO271:=Aside0.mk (show Kd.V k53 53 _ w.heap.size _ (.slice A17 y267.length c17) y267 from Kd.V_mk (by rw [hy17,hc17];exact Nat.sub_le_sub_right hroom17 _) hr17);have HC271:=Aside0.mk (show y267.length≤c17 from by rw [hy17,hc17];exact Nat.sub_le_sub_right hroom17 _);clear hr17 hC17 hroom17 hi017 hsz17 hc17;have KY17:=Aside0.mk hy17;have KA17:=Aside0.mk hA17;clear hy17 hA17;replace q17:=eq_true q17)|((with_reducible refine gate_builtin (b:=.append) (xs:=#[.tmp 30,.tmp 33]) rfl ?_);at_builtin;refine Kd.N_append_rows k53 (w0:=w) w.heap.size rfl (.tmp 30) (.tmp 33) 46 53 (.agg #[(.string ⟨#[]⟩),(.slice none 0 0)]) 40 rfl Try.underlying46 info53 rfl (by decide) (by omega) v265 y264 y267 _ _ _ (fun k_=>((P0_ k_∨P2_ k_)∨w.heap.size≤k_)) (fun k_=>((fun k_=>((P0_ k_∨P2_ k_)∨w.heap.size≤k_))) k_∧some k_≠(v265:Value).ownBlock) rfl rfl ?aO ?aR (fun _ hk=>hk) ?aF ?aB ?aS ?aL ?_;(case aR=>exact (by (with_reducible repeat (first|apply Kd.F_alloc|apply Kd.F_drewN|apply Kd.F_drew));exact Kd.V_F (Kd.V_mono (ok':=(fun k_=>((fun k_=>((P0_ k_∨P2_ k_)∨w.heap.size≤k_))) k_∧some k_≠(v265:Value).ownBlock)) (HO271.out) (fun k_ hk=>⟨hk.1,hk.2⟩))));(case aB=>exact (by repeat (first|(with_reducible first|exact HB.out|apply bA_|apply bN_|apply bD_)|exact HB.out)));(case aF=>exact (fun k_ hk=>(.inr (Nat.le_trans (below_size (by repeat (first|(with_reducible first|exact HB.out|apply bA_|apply bN_|apply bD_)|exact HB.out))) hk))));(case aO=>exact (by (with_reducible repeat (first|apply nA_|apply nN_|apply nD_));exact HO266.out));(case aS=>exact (below_size (by repeat (first|(with_reducible first|exact HB.out|apply bA_|apply bN_|apply bD_)|exact HB.out))));(case aL=>have:=LMc13.out;omega);intro v273 w18 ho hb hg hat;rw [← Ny272.out] at ho;have n0_:=Aside0.mk (Kd.V_afterv (ok:=(fun k_=>((P0_ k_∨P2_ k_)∨w.heap.size≤k_))) (by (with_reducible repeat (first|apply vA_|apply vN_|apply vD_));exact HO0.out) hg hat);have n1_:=Aside0.mk (Kd.V_afterv (ok:=(fun k_=>((P0_ k_∨P2_ k_)∨w.heap.size≤k_))) (by (with_reducible repeat (first|apply vA_|apply vN_|apply vD_));exact HO2.out) hg hat);have n2_:=Aside0.mk (Kd.V_afterv (ok:=(fun k_=>((P0_ k_∨P2_ k_)∨w.heap.size≤k_))) (by (with_reducible repeat (first|apply vA_|apply vN_|apply vD_));exact HO260.out) hg hat);have n3_:=Aside0.mk (Kd.V_afterv (ok:=(fun k_=>((P0_ k_∨P2_ k_)∨w.heap.size≤k_))) (by (with_reducible repeat (first|apply vA_|apply vN_|apply vD_));exact HO271.out) hg hat);have n4_:=Aside0.mk (hb);have n5_:=Aside0.mk (ho);clear HO0;clear HO2;clear HO260;clear HO271;clear HB;clear HO266;have HO0:=n0_;have HO2:=n1_;have HO260:=n2_;have HO271:=n3_;have HB:=n4_;have HO274:=n5_;clear n0_ n1_ n2_ n3_ n4_ n5_;clear ho hb hg hat))
         go_ret
         exact ⟨_,by first|rfl|(simp [errW_none,errW_some] <;> rfl)|(simp only [← hji10];first|rfl|(simp [errW_none,errW_some] <;> rfl))|(simp [*,errW_none,errW_some] <;> rfl),by (with_reducible repeat (first|apply nA_|apply nN_|apply nD_));exact HO274.out,by repeat (first|(with_reducible first|exact HB.out|apply bA_|apply bN_|apply bD_)|exact HB.out)⟩
        ·rw [if_neg c13] at H
         exact absurd H (by simp)
       ·rw [if_neg c12] at H
        exact absurd H (by simp)
      ·rw [if_neg c11] at H
       exact absurd H (by simp)
     ·replace c9:=Bool.eq_false_iff.mpr c9
      subst c9
      have H1:((some (l0.drop (t254:Int).toNat:List (S53))).bind fun y275=>(if y264.length+y275.length < 3518437208883 then (some (y264 ++ y275)) else (none)))=some r:=by rw [if_neg (show ¬ (false=true) by decide)] at H;exact H
      clear H
      have H:=H1
      clear H1
      have c19b0:=eq_true (of_decide_eq_true (by first|(with_reducible assumption)|assumption):0≤t254)
      have c20b0:=eq_true (of_decide_eq_true (by first|(with_reducible assumption)|assumption):t254≤(l0.length:Int))
      obtain ⟨y275,hy275⟩:∃ y_:List (S53),y_=(l0.drop (t254:Int).toNat):=⟨_,rfl⟩
      replace H:(if y264.length+y275.length < 3518437208883 then (some (y264 ++ y275)) else (none))=some r:=by first|(rw [hy275];with_reducible exact H)|(have H2_:=(Option.bind_some _ _).symm.trans H;rw [hy275];with_reducible exact H2_)|(have H2_:=(Option.bind_some _ _).symm.trans H;with_reducible exact H2_)|with_reducible exact H|(rw [hy275];exact H)|exact H
      have Ny275:=Aside0.mk hy275
      clear hy275
      by_cases c21:y264.length+y275.length < 3518437208883
      ·rw [if_pos c21] at H
       have LMc21:=Aside0.mk c21
       clear c21
       obtain ⟨y280,hy280⟩:∃ y_:List (S53),y_=(y264 ++ y275):=⟨_,rfl⟩
       replace H:(some y280)=some r:=by first|(rw [hy280];with_reducible exact H)|(have H2_:=(Option.bind_some _ _).symm.trans H;rw [hy280];with_reducible exact H2_)|(have H2_:=(Option.bind_some _ _).symm.trans H;with_reducible exact H2_)|with_reducible exact H|(rw [hy280];exact H)|exact H
       have Ny280:=Aside0.mk hy280
       clear hy280
       obtain rfl:=Option.some.inj H
       go_enter Try.func31,Try.ntmps31
       go_wp2_with (first|((with_reducible refine gate_callee (f:=52) rfl ?_);refine goesL_ (some 13) rfl rfl Try.func52 (by kernel_rfl) rfl #[.slice A0 l0.length c0,.string a1] rfl (by (try simp only [List.map_toArray,List.map_cons,List.map_nil]);first|done|rfl|(simp only [List.length_drop,List.length_take];rfl)) ?_;(with_reducible refine (cadenceref2_At.calls k _ _ l0 a1 t254 false _ ?side1 ?side2 A4.out).mono ?_);(case side1=>repeat (first|exact (Kd.V_reads' HO0.out).2.2|(with_reducible refine cA_ ?_ _)|(with_reducible refine cN_ ?_ _)|(with_reducible refine cD_ ?_)));(case side2=>exact (Kd.V_reads' HO0.out).2.1);rintro e w' ⟨rfl,⟨nd,rfl⟩⟩;refine ⟨_,rfl,?_⟩;have q22:(t254:Int)≤((l0.length:Int):Int):=of_decide_eq_true (by first|(with_reducible assumption)|assumption);obtain ⟨i022,hi022,_,hsz22,_⟩:=info_parts info53;have hroom22:l0.length≤c0:=(Kd.V_reads' HO0.out).2.1;have hC22:Kd.F k53 _ _ A0 l0.length l0:=(Kd.V_at (base:=w.heap.size) HO0.out).2.2;have hcut22:=cut_to (P:=Try.prog) 46 53 .i64 Try.underlying46 hi022 A0 l0.length c0 t254 (of_decide_eq_true (by first|(with_reducible assumption)|assumption)) q22 hroom22;have hr22:=Kd.F_take (m:=(t254:Int).toNat) hC22 (by omega);have hy22:y256.length=(t254:Int).toNat:=(by rw [Ny256.out,List.length_take];omega);rw [← Ny256.out] at hr22;rw [← hy22] at hcut22;have HO260:=Aside0.mk (show Kd.V k53 53 _ w.heap.size _ (.slice A0 y256.length c0) y256 from Kd.V_mk (by omega) hr22);have HC260:=Aside0.mk (show y256.length≤c0 from by omega);clear hr22 hC22 hroom22 hi022 hsz22;have KY22:=Aside0.mk hy22;clear hy22;replace q22:=eq_true q22)|((with_reducible refine gate_builtin (b:=.append) (xs:=#[.tmp 16,.tmp 19]) rfl ?_);at_builtin;refine Kd.N_append_rows k53 (w0:=w) w.heap.size rfl (.tmp 16) (.tmp 19) 46 53 (.agg #[(.string ⟨#[]⟩),(.slice none 0 0)]) 40 rfl Try.underlying46 info53 rfl (by decide) (by omega) (.slice none 0 0) ([]:List (S53)) y256 _ _ _ (fun k_=>((P0_ k_∨P2_ k_)∨w.heap.size≤k_)) (fun k_=>((fun k_=>((P0_ k_∨P2_ k_)∨w.heap.size≤k_))) k_∧some k_≠(.slice none 0 0:Value).ownBlock) rfl rfl ?aO ?aR (fun _ hk=>hk) ?aF ?aB ?aS ?aL ?_;(case aR=>exact (by (with_reducible repeat (first|apply Kd.F_alloc|apply Kd.F_drewN|apply Kd.F_drew));exact Kd.V_F (Kd.V_mono (ok':=(fun k_=>((fun k_=>((P0_ k_∨P2_ k_)∨w.heap.size≤k_))) k_∧some k_≠(.slice none 0 0:Value).ownBlock)) (HO260.out) (fun k_ hk=>⟨hk,(by simp [Value.ownBlock])⟩))));(case aB=>exact (by repeat (first|(with_reducible first|exact HB.out|apply bA_|apply bN_|apply bD_)|exact HB.out)));(case aF=>exact (fun k_ hk=>(.inr (Nat.le_trans (below_size (by repeat (first|(with_reducible first|exact HB.out|apply bA_|apply bN_|apply bD_)|exact HB.out))) hk))));(case aO=>exact ((Kd.N_nil _ _ _ _ (fun k_=>((P0_ k_∨P2_ k_)∨w.heap.size≤k_)))));(case aS=>exact (below_size (by repeat (first|(with_reducible first|exact HB.out|apply bA_|apply bN_|apply bD_)|exact HB.out))));(case aL=>have:=LMc7.out;omega);intro v262 w23 ho hb hg hat;rw [← Ny261.out] at ho;have n0_:=Aside0.mk (Kd.V_afterv (Kd.V_apart_nil (by (with_reducible repeat (first|apply vA_|apply vN_|apply vD_));exact HO0.out)) hg hat);have n1_:=Aside0.mk (Kd.V_afterv (Kd.V_apart_nil (by (with_reducible repeat (first|apply vA_|apply vN_|apply vD_));exact HO2.out)) hg hat);have n2_:=Aside0.mk (Kd.V_afterv (Kd.V_apart_nil (by (with_reducible repeat (first|apply vA_|apply vN_|apply vD_));exact HO260.out)) hg hat);have n3_:=Aside0.mk (hb);have n4_:=Aside0.mk (ho);clear HO0;clear HO2;clear HO260;clear HB;have HO0:=n0_;have HO2:=n1_;have HO260:=n2_;have HB:=n3_;have HO263:=n4_;clear n0_ n1_ n2_ n3_ n4_;clear ho hb hg hat)|((with_reducible refine gate_builtin (b:=.append) (xs:=#[.tmp 21,.tmp 25]) rfl ?_);at_builtin;refine Kd.N_append k53 (w0:=w) w.heap.size rfl (.tmp 21) (.tmp 25) 46 53 (.agg #[(.string ⟨#[]⟩),(.slice none 0 0)]) 40 rfl Try.underlying46 info53 rfl (by decide) (by omega) v262 y261 (⟨a1,l2⟩:S53) [.string a1,.slice A2 l2.length c2] (fun k_=>((P0_ k_∨P2_ k_)∨w.heap.size≤k_)) (fun k_=>((fun k_=>((P0_ k_∨P2_ k_)∨w.heap.size≤k_))) k_∧some k_≠(v262:Value).ownBlock) rfl rfl ?aP (fun _ hk=>hk) ?aF ?aO ?aB ?aS ?aL ?_;(case aP=>exact (k53_mkF _ _ (⟨a1,l2⟩:S53) (Kd.V_reads' (Kd.V_mono (ok':=(fun k_=>((fun k_=>((P0_ k_∨P2_ k_)∨w.heap.size≤k_))) k_∧some k_≠(v262:Value).ownBlock)) (HO2.out) (fun k_ hk=>⟨hk.1,hk.2⟩))).2.1 (Kd.V_F (Kd.V_mono (ok':=(fun k_=>((fun k_=>((P0_ k_∨P2_ k_)∨w.heap.size≤k_))) k_∧some k_≠(v262:Value).ownBlock)) (HO2.out) (fun k_ hk=>⟨hk.1,hk.2⟩)))));(case aB=>exact (by repeat (first|(with_reducible first|exact HB.out|apply bA_|apply bN_|apply bD_)|exact HB.out)));(case aF=>exact (fun k_ hk=>(.inr (Nat.le_trans (below_size (by repeat (first|(with_reducible first|exact HB.out|apply bA_|apply bN_|apply bD_)|exact HB.out))) hk))));(case aO=>exact (by (with_reducible repeat (first|apply nA_|apply nN_|apply nD_));exact HO263.out));(case aS=>exact (below_size (by repeat (first|(with_reducible first|exact HB.out|apply bA_|apply bN_|apply bD_)|exact HB.out))));(case aL=>have:=LMc8.out;omega);intro v265 w24 ho hb hg hat;rw [← Ny264.out] at ho;have n0_:=Aside0.mk (Kd.V_afterv (ok:=(fun k_=>((P0_ k_∨P2_ k_)∨w.heap.size≤k_))) (by (with_reducible repeat (first|apply vA_|apply vN_|apply vD_));exact HO0.out) hg hat);have n1_:=Aside0.mk (Kd.V_afterv (ok:=(fun k_=>((P0_ k_∨P2_ k_)∨w.heap.size≤k_))) (by (with_reducible repeat (first|apply vA_|apply vN_|apply vD_));exact HO2.out) hg hat);have n2_:=Aside0.mk (Kd.V_afterv (ok:=(fun k_=>((P0_ k_∨P2_ k_)∨w.heap.size≤k_))) (by (with_reducible repeat (first|apply vA_|apply vN_|apply vD_));exact HO260.out) hg hat);have n3_:=Aside0.mk (hb);have n4_:=Aside0.mk (ho);clear HO0;clear HO2;clear HO260;clear HB;clear HO263;have HO0:=n0_;have HO2:=n1_;have HO260:=n2_;have HB:=n3_;have HO266:=n4_;clear n0_ n1_ n2_ n3_ n4_;clear ho hb hg hat;have q25:(t254:Int)≤((l0.length:Int):Int):=of_decide_eq_true (by first|(with_reducible assumption)|assumption);obtain ⟨i025,hi025,_,hsz25,_⟩:=info_parts info53;have hroom25:l0.length≤c0:=(Kd.V_reads' HO0.out).2.1;have hC25:Kd.F k53 _ _ A0 l0.length l0:=(Kd.V_at (base:=w.heap.size) HO0.out).2.2;have q025:(0:Int)≤(t254:Int):=of_decide_eq_true (by first|(with_reducible assumption)|assumption);have hcut25:=cut_from (P:=Try.prog) 46 53 .i64 Try.underlying46 hi025 2 hsz25 A0 l0.length c0 t254 q025 q25;have hr25:=Kd.F_cut (m:=(t254:Int).toNat) (c:=c0) hC25 (by omega) hroom25;obtain ⟨A25,hA25⟩:∃ A1,A1=(if c0=(t254:Int).toNat then A0 else (A0:Option Addr).map (·.add ((t254:Int).toNat * 2))):=⟨_,rfl⟩;obtain ⟨c25,hc25⟩:∃ c1,c1=c0 - (t254:Int).toNat:=⟨_,rfl⟩;have hy25:y275.length=l0.length - (t254:Int).toNat:=(by rw [Ny275.out,List.length_drop] <;> omega);rw [show (l0).drop (t254:Int).toNat=y275 from Ny275.out.symm] at hr25;replace hr25:Kd.F k53 _ _ A25 y275.length y275:=(by rw [hA25];exact hr25);rw [← hy25,← hA25,← hc25] at hcut25;have HO279:=Aside0.mk (show Kd.V k53 53 _ w.heap.size _ (.slice A25 y275.length c25) y275 from Kd.V_mk (by rw [hy25,hc25];exact Nat.sub_le_sub_right hroom25 _) hr25);have HC279:=Aside0.mk (show y275.length≤c25 from by rw [hy25,hc25];exact Nat.sub_le_sub_right hroom25 _);clear hr25 hC25 hroom25 hi025 hsz25 hc25;have KY25:=Aside0.mk hy25;have KA25:=Aside0.mk hA25;clear hy25 hA25;replace q25:=eq_true q25)|((with_reducible refine gate_builtin (b:=.append) (xs:=#[.tmp 30,.tmp 33]) rfl ?_);at_builtin;refine Kd.N_append_rows k53 (w0:=w) w.heap.size rfl (.tmp 30) (.tmp 33) 46 53 (.agg #[(.string ⟨#[]⟩),(.slice none 0 0)]) 40 rfl Try.underlying46 info53 rfl (by decide) (by omega) v265 y264 y275 _ _ _ (fun k_=>((P0_ k_∨P2_ k_)∨w.heap.size≤k_)) (fun k_=>((fun k_=>((P0_ k_∨P2_ k_)∨w.heap.size≤k_))) k_∧some k_≠(v265:Value).ownBlock) rfl rfl ?aO ?aR (fun _ hk=>hk) ?aF ?aB ?aS ?aL ?_;(case aR=>exact (by (with_reducible repeat (first|apply Kd.F_alloc|apply Kd.F_drewN|apply Kd.F_drew));exact Kd.V_F (Kd.V_mono (ok':=(fun k_=>((fun k_=>((P0_ k_∨P2_ k_)∨w.heap.size≤k_))) k_∧some k_≠(v265:Value).ownBlock)) (HO279.out) (fun k_ hk=>⟨hk.1,hk.2⟩))));(case aB=>exact (by repeat (first|(with_reducible first|exact HB.out|apply bA_|apply bN_|apply bD_)|exact HB.out)));(case aF=>exact (fun k_ hk=>(.inr (Nat.le_trans (below_size (by repeat (first|(with_reducible first|exact HB.out|apply bA_|apply bN_|apply bD_)|exact HB.out))) hk))));(case aO=>exact (by (with_reducible repeat (first|apply nA_|apply nN_|apply nD_));exact HO266.out));(case aS=>exact (below_size (by repeat (first|(with_reducible first|exact HB.out|apply bA_|apply bN_|apply bD_)|exact HB.out))));(case aL=>have:=LMc21.out;omega);intro v281 w26 ho hb hg hat;rw [← Ny280.out] at ho;have n0_:=Aside0.mk (Kd.V_afterv (ok:=(fun k_=>((P0_ k_∨P2_ k_)∨w.heap.size≤k_))) (by (with_reducible repeat (first|apply vA_|apply vN_|apply vD_));exact HO0.out) hg hat);have n1_:=Aside0.mk (Kd.V_afterv (ok:=(fun k_=>((P0_ k_∨P2_ k_)∨w.heap.size≤k_))) (by (with_reducible repeat (first|apply vA_|apply vN_|apply vD_));exact HO2.out) hg hat);have n2_:=Aside0.mk (Kd.V_afterv (ok:=(fun k_=>((P0_ k_∨P2_ k_)∨w.heap.size≤k_))) (by (with_reducible repeat (first|apply vA_|apply vN_|apply vD_));exact HO260.out) hg hat);have n3_:=Aside0.mk (Kd.V_afterv (ok:=(fun k_=>((P0_ k_∨P2_ k_)∨w.heap.size≤k_))) (by (with_reducible repeat (first|apply vA_|apply vN_|apply vD_));exact HO279.out) hg hat);have n4_:=Aside0.mk (hb);have n5_:=Aside0.mk (ho);clear HO0;clear HO2;clear HO260;clear HO279;clear HB;clear HO266;have HO0:=n0_;have HO2:=n1_;have HO260:=n2_;have HO279:=n3_;have HB:=n4_;have HO282:=n5_;clear n0_ n1_ n2_ n3_ n4_ n5_;clear ho hb hg hat))
       go_ret
       exact ⟨_,by first|rfl|(simp [errW_none,errW_some] <;> rfl)|(simp [*,errW_none,errW_some] <;> rfl),by (with_reducible repeat (first|apply nA_|apply nN_|apply nD_));exact HO282.out,by repeat (first|(with_reducible first|exact HB.out|apply bA_|apply bN_|apply bD_)|exact HB.out)⟩
      ·rw [if_neg c21] at H
       exact absurd H (by simp)
    ·rw [if_neg c8] at H
     exact absurd H (by simp)
   ·rw [if_neg c7] at H
    exact absurd H (by simp)
  ·rw [if_neg c6] at H
   exact absurd H (by simp)
 ·rw [if_neg c5] at H
  exact absurd H (by simp)
end Go.Proofs.Ytoihiehoolehiaa.PX
set_option linter.unusedVariables false
namespace Go.Proofs.Ytoihiehoolehiaa.PX
open Go.RowKit Go.Proofs.YtoihiehoolehiaaW.PrintWords Go.Proofs.YtoihiehoolehiaaW.PrintLast Go.Proofs.YtoihiehoolehiaaW.PrintMore Go.Proofs.Ytoihiehoolehiaa
theorem at_ev (t:Tr) (n:ByteArray) (hl:t.length≤1000000000000):Ev (fun k=>cadenceref2_At.f k t n) ((pos t n:Nat),hasAt t n):=by
 have loop:∀ (d i:Nat),i+d=t.length→(∀ j (h:j < t.length),j < i→tl t[j].f0 < tl n)→Ev (fun k=>cadenceref2_At.l0 k t n (i:Int)) ((pos t n:Nat),hasAt t n):=by
  intro d
  induction d with
  | zero =>
   intro i hi hb
   have e:∀ k,cadenceref2_At.l0 (k+1) t n (i:Int)=some ((i:Int),false):=fun k=>by
    simp only [cadenceref2_At.l0]
    rw [if_neg (by omega)]
   have hp:pos t n=i:=by
    have h1:=pos_le t n
    refine Nat.le_antisymm (by omega) (Nat.le_of_not_lt fun hlt=>?_)
    have hh:=hasAt_pos t n
    have h2:=hb (pos t n) (by omega) hlt
    exact absurd h2 (pos_not t n (by omega))
   have hh:hasAt t n=false:=by rw [hasAt_pos,dif_neg (by omega)]
   rw [hp,hh]
   exact Ev.step e (Ev.now _)
  | succ d ihd =>
   intro i hi hb
   have hil:i < t.length:=by omega
   by_cases hlt:tl t[i].f0 < tl n
   ·have e:∀ k,cadenceref2_At.l0 (k+1) t n (i:Int)=cadenceref2_At.l0 k t n ((i+1:Nat):Int):=fun k=>by
     simp only [cadenceref2_At.l0]
     rw [if_pos (by omega),if_pos (by omega),rdT_nat hil,if_pos ((less_iff _ _).2 hlt),wrap_succ (by omega)]
    refine Ev.step e (ihd (i+1) (by omega) fun j hj hji=>?_)
    rcases Nat.lt_or_ge j i with h|h
    ·exact hb j hj h
    ·obtain rfl:j=i:=by omega
     exact hlt
   ·have e:∀ k,cadenceref2_At.l0 (k+1) t n (i:Int)=some ((i:Int),decide (t[i].f0=n)):=fun k=>by
     simp only [cadenceref2_At.l0]
     rw [if_pos (by omega),if_pos (by omega),rdT_nat hil,if_neg (fun h=>hlt ((less_iff _ _).1 h)),same_eq]
    have hp:pos t n=i:=by
     rcases Nat.lt_trichotomy (pos t n) i with h|h|h
     ·exact absurd (hb _ (by omega) h) (pos_not t n (by omega))
     ·exact h
     ·exact absurd (pos_below t n i hil h) hlt
    have hh:hasAt t n=decide (t[i].f0=n):=by
     rw [hasAt_pos,dif_pos (by omega)]
     simp only [hp]
    rw [hp,hh]
    exact Ev.step e (Ev.now _)
 exact loop t.length 0 (by omega) (fun j _ h=>absurd h (Nat.not_lt_zero _))
theorem with_ev (t:Tr) (n:ByteArray) (x:Tr) (hl:t.length≤1000000000000):Ev (fun k=>cadenceref2_With.f k t n x) (withT t n x):=by
 obtain ⟨K,hK⟩:=at_ev t n hl
 refine ⟨K,fun k hk=>?_⟩
 replace hK:cadenceref2_At.f k t n=some (((pos t n:Nat):Int),hasAt t n):=hK k hk
 show cadenceref2_With.f k t n x=some (withT t n x)
 have hp:=pos_le t n
 have h1:(0:Int)≤(pos t n:Nat):=by omega
 have h2:((pos t n:Nat):Int)≤(t.length:Int):=by omega
 have h3:([]:Tr).length+(t.take (pos t n)).length < 3518437208883:=by rw [List.length_take,List.length_nil];omega
 have h4:(t.take (pos t n)).length < 3518437208883:=by rw [List.length_take];omega
 unfold cadenceref2_With.f
 rw [hK,Option.bind_some,if_pos h1,if_pos h2,Int.toNat_natCast,Option.bind_some,if_pos h3,Option.bind_some,List.nil_append,if_pos h4,Option.bind_some,withT_eq]
 cases e:hasAt t n with
 | true =>
  have hlt:pos t n < t.length:=by
   rw [hasAt_kid] at e
   obtain ⟨x,hx⟩:=Option.isSome_iff_exists.1 e
   exact (kid_pos t n x hx).1
  have h5:(0:Int)≤((pos t n+1:Nat):Int):=by omega
  have h6:((pos t n+1:Nat):Int)≤(t.length:Int):=by omega
  have h7:(t.take (pos t n) ++ [(⟨n,x⟩:Edge)]).length+(t.drop (pos t n+1)).length < 3518437208883:=by rw [List.length_append,List.length_take,List.length_drop,List.length_singleton];omega
  rw [if_pos rfl,wrap_succ (by omega),if_pos h5,if_pos h6,Int.toNat_natCast,Option.bind_some,if_pos h7,if_pos rfl,List.append_assoc]
  rfl
 | false =>
  have h7:(t.take (pos t n) ++ [(⟨n,x⟩:Edge)]).length+(t.drop (pos t n)).length < 3518437208883:=by rw [List.length_append,List.length_take,List.length_drop,List.length_singleton];omega
  rw [if_neg Bool.false_ne_true,Option.bind_some,if_pos h7,if_neg Bool.false_ne_true,List.append_assoc]
  rfl
end Go.Proofs.Ytoihiehoolehiaa.PX
namespace Go.Proofs.Ytoihiehoolehiaa.PX
open Go.RowKit Go.Proofs.YtoihiehoolehiaaW.PrintWords Go.Proofs.YtoihiehoolehiaaW.PrintLast Go.Proofs.YtoihiehoolehiaaW.PrintMore
attribute [local go_sem] max2_int min2_int max_two min_two max_three min_three max_four min_four   
set_option linter.unusedVariables false
set_option linter.unusedSimpArgs false
def cadencelaw4_within.f (a0:Int) (a1:Int):Option (Int):=if a1=0 then (none) else (if (Int.tmod a0 a1) < 0 then (some (wrap64 ((Int.tmod a0 a1)+a1))) else (some (Int.tmod a0 a1)))
set_option maxHeartbeats 8000000 in
set_option maxRecDepth 100000 in
theorem cadencelaw4_within.calls (a0:Int) (a1:Int) (r:Int) (w:World) (h:cadencelaw4_within.f a0 a1=some r) :
  Calls Try.prog 13 #[.int .i64 a0,.int .i64 a1] w fun e w'=>e=.returned (.int .i64 r)∧Drawn0 w w':=by
 have H:(if a1=0 then (none) else (if (Int.tmod a0 a1) < 0 then (some (wrap64 ((Int.tmod a0 a1)+a1))) else (some (Int.tmod a0 a1))))=some r:=h
 clear h
 by_cases c3:a1=0
 ·rw [if_pos c3] at H
  exact absurd H (by simp)
 ·rw [if_neg c3] at H
  have c3b0:(a1 == 0)=false:=beq_eq_false_iff_ne.mpr c3
  have c3b1:(a1 != 0)=true:=bne_iff_ne.mpr c3
  by_cases c4:(Int.tmod a0 a1) < 0
  ·rw [if_pos c4] at H
   have c4b0:decide ((Int.tmod a0 a1) < 0)=true:=decide_eq_true c4
   clear c4
   obtain rfl:=Option.some.inj H
   go_enter Try.func13,Try.ntmps13
   go_wp2
   go_ret
   exact ⟨by first|rfl|(simp;done)|(simp [*];done),by repeat (first|exact Drawn0.refl _|apply Drawn0.step)⟩
  ·rw [if_neg c4] at H
   have c4b0:decide ((Int.tmod a0 a1) < 0)=false:=decide_eq_false c4
   clear c4
   obtain rfl:=Option.some.inj H
   go_enter Try.func13,Try.ntmps13
   go_wp2
   go_ret
   exact ⟨by first|rfl|(simp;done)|(simp [*];done),by repeat (first|exact Drawn0.refl _|apply Drawn0.step)⟩
end Go.Proofs.Ytoihiehoolehiaa.PX
namespace Go.Proofs.Ytoihiehoolehiaa.PX
open Go.RowKit Go.Proofs.YtoihiehoolehiaaW.PrintWords Go.Proofs.YtoihiehoolehiaaW.PrintLast Go.Proofs.YtoihiehoolehiaaW.PrintMore
attribute [local go_sem] max2_int min2_int max_two min_two max_three min_three max_four min_four   
set_option linter.unusedVariables false
set_option linter.unusedSimpArgs false
mutual
def cadencelaw4_Small.l0:Nat→List (S67)→Int→Int→List (S53)→Int→Option ((List (S53)))
 | 0,_,_,_,_,_=>none
 | k+1,x0,x1,x2,x7,x8=>if x8 < (x0.length:Int) then (if x8 < x1 then (cadencelaw4_Small.j1 k x0 x1 x2 x7 x8 (decide (x2 > 0))) else (cadencelaw4_Small.j1 k x0 x1 x2 x7 x8 false)) else (cadencelaw4_Small.j1 k x0 x1 x2 x7 x8 false)
def cadencelaw4_Small.j1:Nat→List (S67)→Int→Int→List (S53)→Int→Bool→Option ((List (S53)))
 | 0,_,_,_,_,_,_=>none
 | k+1,x0,x1,x2,x7,x8,x21=>if x21=true then ((some (([(⟨#[]⟩:ByteArray),(⟨#[97]⟩:ByteArray),(⟨#[98]⟩:ByteArray),(⟨#[99]⟩:ByteArray),(⟨#[100]⟩:ByteArray)]:List ByteArray):List ByteArray)).bind fun y283=>(if 0≤x8 then (if x8 < (x0.length:Int) then ((cadencelaw4_within.f (((rd_T67 x0 x8).f0).size:Int) 5).bind fun t287=>(if 0≤t287 then (if t287 < (y283.length:Int) then ((cadencelaw4_Small.f k ((rd_T67 x0 x8).f1) x1 (wrap64 (x2 - 1))).bind fun t290=>((cadenceref2_With.f k x7 (rdOf ByteArray.empty y283 t287) t290).bind fun t293=>(cadencelaw4_Small.l0 k x0 x1 x2 t293 (wrap64 (x8+1))))) else (none)) else (none))) else (none)) else (none))) else (some x7)
def cadencelaw4_Small.f:Nat→List (S67)→Int→Int→Option ((List (S53)))
 | 0,_,_,_=>none
 | k+1,l0,a1,a2=>cadencelaw4_Small.l0 k l0 a1 a2 ([]:List (S53)) 0
end
theorem cadencelaw4_Small.mono_l:∀ k,(∀ y0 y1 y2,LeO (cadencelaw4_Small.f k y0 y1 y2) (cadencelaw4_Small.f (k+1) y0 y1 y2))∧(∀ y0 y1 y2 y3 y4,LeO (cadencelaw4_Small.l0 k y0 y1 y2 y3 y4) (cadencelaw4_Small.l0 (k+1) y0 y1 y2 y3 y4))∧(∀ y0 y1 y2 y3 y4 y5,LeO (cadencelaw4_Small.j1 k y0 y1 y2 y3 y4 y5) (cadencelaw4_Small.j1 (k+1) y0 y1 y2 y3 y4 y5))
 | 0=>⟨fun _ _ _ r h=>by simp [cadencelaw4_Small.f] at h,fun _ _ _ _ _ r h=>by simp [cadencelaw4_Small.l0] at h,fun _ _ _ _ _ _ r h=>by simp [cadencelaw4_Small.j1] at h⟩
 | k+1=>by
  obtain ⟨ih0,ih1,ih2⟩:=cadencelaw4_Small.mono_l k
  refine ⟨?_,?_,?_⟩
  ·intro y0 y1 y2
   unfold cadencelaw4_Small.f
   repeat' first
   | (with_reducible exact ih0 _ _ _)
   | (with_reducible exact ih1 _ _ _ _ _)
   | (with_reducible exact ih2 _ _ _ _ _ _)
   | (with_reducible exact cadenceref2_With.mono _ _ _ _)
   | (with_reducible exact LeO.refl _)
   | (with_reducible exact LeO.none _)
   | (with_reducible refine LeO.ite ?_ ?_)
   | (with_reducible refine LeO.bind ?_ (fun _=>?_))
   | exact ih0 _ _ _
   | exact ih1 _ _ _ _ _
   | exact ih2 _ _ _ _ _ _
   | exact cadenceref2_With.mono _ _ _ _
   | exact LeO.none _
   | refine LeO.ite ?_ ?_
   | refine LeO.bind ?_ (fun _=>?_)
  ·intro y0 y1 y2 y3 y4
   unfold cadencelaw4_Small.l0
   repeat' first
   | (with_reducible exact ih0 _ _ _)
   | (with_reducible exact ih1 _ _ _ _ _)
   | (with_reducible exact ih2 _ _ _ _ _ _)
   | (with_reducible exact cadenceref2_With.mono _ _ _ _)
   | (with_reducible exact LeO.refl _)
   | (with_reducible exact LeO.none _)
   | (with_reducible refine LeO.ite ?_ ?_)
   | (with_reducible refine LeO.bind ?_ (fun _=>?_))
   | exact ih0 _ _ _
   | exact ih1 _ _ _ _ _
   | exact ih2 _ _ _ _ _ _
   | exact cadenceref2_With.mono _ _ _ _
   | exact LeO.none _
   | refine LeO.ite ?_ ?_
   | refine LeO.bind ?_ (fun _=>?_)
  ·intro y0 y1 y2 y3 y4 y5
   unfold cadencelaw4_Small.j1
   repeat' first
   | (with_reducible exact ih0 _ _ _)
   | (with_reducible exact ih1 _ _ _ _ _)
   | (with_reducible exact ih2 _ _ _ _ _ _)
   | (with_reducible exact cadenceref2_With.mono _ _ _ _)
   | (with_reducible exact LeO.refl _)
   | (with_reducible exact LeO.none _)
   | (with_reducible refine LeO.ite ?_ ?_)
   | (with_reducible refine LeO.bind ?_ (fun _=>?_))
   | exact ih0 _ _ _
   | exact ih1 _ _ _ _ _
   | exact ih2 _ _ _ _ _ _
   | exact cadenceref2_With.mono _ _ _ _
   | exact LeO.none _
   | refine LeO.ite ?_ ?_
   | refine LeO.bind ?_ (fun _=>?_)
theorem cadencelaw4_Small.mono:∀ a0 a1 a2 k,LeO (cadencelaw4_Small.f k a0 a1 a2) (cadencelaw4_Small.f (k+1) a0 a1 a2):=by
 intro a0 a1 a2 k
 obtain ⟨ih0,ih1,ih2⟩:=cadencelaw4_Small.mono_l k
 exact ih0 a0 a1 a2
def cadencelaw4_Small.T5:Bool × List (List Nat × List Nat):=(true,[([],[]),([],[]),([],[]),([],[]),([2,3],[2,3]),([4],[4]),([5],[5]),([6],[6]),([7],[7]),([1,8],[1,8]),([9],[9]),([],[]),([],[]),([11,12],[11,12]),([13],[13]),([14],[14]),([],[]),([],[]),([17],[17]),([15,16,18,8],[15,16,18]),([0,10,19,19],[0,10,19]),([20,20,0,1,2,3,4,5,6,7,8,9,10,11,12,13,14,15,16,17,18,19,20],[0,20])])
def cadencelaw4_Small.B5:List Nat:=[0,0,0,0,12,28,60,124,252,510,1022,0,0,6144,14336,30720,0,0,131072,522748,1048575,2097151]
theorem cadencelaw4_Small.tab5:rtab .any (opsOf Try.f15 5)=cadencelaw4_Small.T5:=by kernel_rfl
theorem cadencelaw4_Small.bits5:waitsOk cadencelaw4_Small.T5.2 cadencelaw4_Small.B5=true:=by kernel_rfl
set_option maxHeartbeats 8000000 in
set_option maxRecDepth 100000 in
theorem cadencelaw4_Small.calls (k:Nat):∀ (A0:Option Addr) (c0:Nat) (l0:List (S67)) (a1:Int) (a2:Int) (r:List (S53)) (w:World) (hr0:Kd.C k67 w A0 l0.length l0) (hc0:l0.length≤c0) (h:cadencelaw4_Small.f k l0 a1 a2=some r),
  Calls Try.prog 15 #[.slice A0 l0.length c0,.int .i64 a1,.int .i64 a2] w fun e w'=>∃ v0_:Value,e=.returned (v0_)∧Kd.N k53 53 w' w.heap.size (fun k_=>(w.heap.size≤k_)) v0_ r∧Below w.heap.size w w':=by
 induction k using Nat.strongRecOn with
 | _ k ih =>
 intro A0 c0 l0 a1 a2 r w hr0 hc0 h
 cases k with
 | zero=>exact absurd h (by simp [cadencelaw4_Small.f])
 | succ k =>
 simp only [cadencelaw4_Small.f] at h
 have HR0:=Aside0.mk hr0
 have HC0:=Aside0.mk hc0
 clear hr0 hc0
 have HB:=Aside0.mk (Below.refl w.heap.size w)
 have H:(cadencelaw4_Small.l0 k l0 a1 a2 ([]:List (S53)) 0)=some r:=h
 clear h
 have H':=Aside0.mk H
 clear H
 go_enter Try.func15,Try.ntmps15
 go_wp2
 go_loopg [7,8] k (fun kq v7 v8 w'=>∃ (x7_1:List (S53)) (x8_1:Int),v8=.int .i64 x8_1∧Aside0 (cadencelaw4_Small.l0 kq l0 a1 a2 x7_1 x8_1=some r)∧Aside0 (kq≤k)∧Aside0 (Kd.N k53 53 w' w.heap.size (fun k_=>(w.heap.size≤k_)) v7 x7_1)∧Aside0 (Below w.heap.size w w'))
 case atStart=>exact ⟨(([]:List (S53))),(0),(by first|rfl|(simp;done)|(simp [*];done)),H',⟨Nat.le_refl _⟩,⟨by first|exact Kd.R_nil _ _ _ _ _|exact Kd.N_nil _ _ _ _ _|exact Kd.V_nil _ _ _ _ _|exact Kd.Q_nil _ _ _ _ _|exact Kd.S_nil _ _ _ _ _⟩,⟨by repeat (first|(with_reducible first|exact HB.out|apply bA_|apply bN_|apply bD_)|exact HB.out)⟩⟩
 case round =>
  clear H'
  try clear c1
  try clear p2
  obtain ⟨x7_1,x8_1,rfl,HA,HK1,HO_7,HB⟩:=hrel
  cases gk with
  | zero=>exact absurd HA.out (by simp [cadencelaw4_Small.l0])
  | succ k1 =>
   have H:=HA.out
   clear HA
   simp only [cadencelaw4_Small.l0] at H
   have HC4:=Aside0.mk H
   clear H
   go_upto_region 3 with (fail)
   go_cut [21] (fun v21 wc=>∃ (kq:Nat) (x21_3:Bool),v21=.bool x21_3∧Aside0 (cadencelaw4_Small.j1 kq l0 a1 a2 x7_1 x8_1 x21_3=some r)∧Aside0 (kq≤k1)∧Aside0 (Kd.N k53 53 wc w.heap.size (fun k_=>(w.heap.size≤k_)) u7 x7_1)∧Aside0 (Below w.heap.size w wc))
   case first =>
    have H:=HC4.out
    clear HC4
    by_cases c5:x8_1 < (l0.length:Int)
    ·rw [if_pos c5] at H
     have c5b0:decide (x8_1 < (l0.length:Int))=true:=decide_eq_true c5
     clear c5
     (first|rw [c5b0]|(simp only [i64_w,i32_w];rw [c5b0])|skip)
     by_cases c6:x8_1 < a1
     ·rw [if_pos c6] at H
      have c6b0:decide (x8_1 < a1)=true:=decide_eq_true c6
      clear c6
      have H':=Aside0.mk H
      clear H
      go_wp2
      go_meet
      case rel=>exact ⟨_,(decide (a2 > 0)),(by first|rfl|(simp;done)|(simp [*];done)),H',⟨by have:=HK1.out;first|omega|exact Nat.le_refl _⟩,⟨by (with_reducible repeat (first|apply nA_|apply nN_|apply nD_));exact HO_7.out⟩,⟨by repeat (first|(with_reducible first|exact HB.out|apply bA_|apply bN_|apply bD_)|exact HB.out)⟩⟩
     ·rw [if_neg c6] at H
      have c6b0:decide (x8_1 < a1)=false:=decide_eq_false c6
      clear c6
      have H':=Aside0.mk H
      clear H
      go_wp2
      go_meet
      case rel=>exact ⟨_,(false),(by first|rfl|(simp;done)|(simp [*];done)),H',⟨by have:=HK1.out;first|omega|exact Nat.le_refl _⟩,⟨by (with_reducible repeat (first|apply nA_|apply nN_|apply nD_));exact HO_7.out⟩,⟨by repeat (first|(with_reducible first|exact HB.out|apply bA_|apply bN_|apply bD_)|exact HB.out)⟩⟩
    ·rw [if_neg c5] at H
     have c5b0:decide (x8_1 < (l0.length:Int))=false:=decide_eq_false c5
     clear c5
     (first|rw [c5b0]|(simp only [i64_w,i32_w];rw [c5b0])|skip)
     have H':=Aside0.mk H
     clear H
     go_wp2
     go_meet
     case rel=>exact ⟨_,(false),(by first|rfl|(simp;done)|(simp [*];done)),H',⟨by have:=HK1.out;first|omega|exact Nat.le_refl _⟩,⟨by (with_reducible repeat (first|apply nA_|apply nN_|apply nD_));exact HO_7.out⟩,⟨by repeat (first|(with_reducible first|exact HB.out|apply bA_|apply bN_|apply bD_)|exact HB.out)⟩⟩
   case rest =>
    clear HC4
    try clear c1
    try clear p2
    try clear c5
    try clear c5b0
    try clear c6
    try clear c6b0
    try clear p2
    obtain ⟨kq,x21_3,rfl,HA,HJ3,HO_7,HB⟩:=hcut
    cases kq with
    | zero=>exact absurd HA.out (by simp [cadencelaw4_Small.j1])
    | succ kj3 =>
     have H:=HA.out
     clear HA
     simp only [cadencelaw4_Small.j1] at H
     by_cases c7:x21_3=true
     ·subst c7
      have H1:((some (([(⟨#[]⟩:ByteArray),(⟨#[97]⟩:ByteArray),(⟨#[98]⟩:ByteArray),(⟨#[99]⟩:ByteArray),(⟨#[100]⟩:ByteArray)]:List ByteArray):List ByteArray)).bind fun y283=>(if 0≤x8_1 then (if x8_1 < (l0.length:Int) then ((cadencelaw4_within.f (((rd_T67 l0 x8_1).f0).size:Int) 5).bind fun t287=>(if 0≤t287 then (if t287 < (y283.length:Int) then ((cadencelaw4_Small.f kj3 ((rd_T67 l0 x8_1).f1) a1 (wrap64 (a2 - 1))).bind fun t290=>((cadenceref2_With.f kj3 x7_1 (rdOf ByteArray.empty y283 t287) t290).bind fun t293=>(cadencelaw4_Small.l0 kj3 l0 a1 a2 t293 (wrap64 (x8_1+1))))) else (none)) else (none))) else (none)) else (none)))=some r:=by rw [if_pos rfl] at H;exact H
      clear H
      have H:=H1
      clear H1
      obtain ⟨y283,hy283⟩:∃ y_:List ByteArray,y_=(([(⟨#[]⟩:ByteArray),(⟨#[97]⟩:ByteArray),(⟨#[98]⟩:ByteArray),(⟨#[99]⟩:ByteArray),(⟨#[100]⟩:ByteArray)]:List ByteArray)):=⟨_,rfl⟩
      replace H:(if 0≤x8_1 then (if x8_1 < (l0.length:Int) then ((cadencelaw4_within.f (((rd_T67 l0 x8_1).f0).size:Int) 5).bind fun t287=>(if 0≤t287 then (if t287 < (y283.length:Int) then ((cadencelaw4_Small.f kj3 ((rd_T67 l0 x8_1).f1) a1 (wrap64 (a2 - 1))).bind fun t290=>((cadenceref2_With.f kj3 x7_1 (rdOf ByteArray.empty y283 t287) t290).bind fun t293=>(cadencelaw4_Small.l0 kj3 l0 a1 a2 t293 (wrap64 (x8_1+1))))) else (none)) else (none))) else (none)) else (none))=some r:=by first|(rw [hy283];with_reducible exact H)|(have H2_:=(Option.bind_some _ _).symm.trans H;rw [hy283];with_reducible exact H2_)|(have H2_:=(Option.bind_some _ _).symm.trans H;with_reducible exact H2_)|with_reducible exact H|(rw [hy283];exact H)|exact H
      have Ny283:=Aside0.mk hy283
      clear hy283
      by_cases c8:0≤x8_1
      ·rw [if_pos c8] at H
       have c8b0:decide (0≤x8_1)=true:=decide_eq_true c8
       clear c8
       by_cases c9:x8_1 < (l0.length:Int)
       ·rw [if_pos c9] at H
        have c9b0:decide (x8_1 < (l0.length:Int))=true:=decide_eq_true c9
        clear c9
        replace H:=Option.bind_eq_some_iff.mp H
        obtain ⟨t287,A100,H⟩:=H
        replace H:(if 0≤t287 then (if t287 < (y283.length:Int) then ((cadencelaw4_Small.f kj3 ((rd_T67 l0 x8_1).f1) a1 (wrap64 (a2 - 1))).bind fun t290=>((cadenceref2_With.f kj3 x7_1 (rdOf ByteArray.empty y283 t287) t290).bind fun t293=>(cadencelaw4_Small.l0 kj3 l0 a1 a2 t293 (wrap64 (x8_1+1))))) else (none)) else (none))=some r:=H
        have A10:=Aside0.mk A100
        clear A100
        by_cases c11:0≤t287
        ·rw [if_pos c11] at H
         have c11b0:decide (0≤t287)=true:=decide_eq_true c11
         clear c11
         by_cases c12:t287 < (y283.length:Int)
         ·rw [if_pos c12] at H
          have c12b0:decide (t287 < (y283.length:Int))=true:=decide_eq_true c12
          clear c12
          replace H:=Option.bind_eq_some_iff.mp H
          obtain ⟨t290,A130,H⟩:=H
          replace H:((cadenceref2_With.f kj3 x7_1 (rdOf ByteArray.empty y283 t287) t290).bind fun t293=>(cadencelaw4_Small.l0 kj3 l0 a1 a2 t293 (wrap64 (x8_1+1))))=some r:=H
          have A13:=Aside0.mk A130
          clear A130
          replace H:=Option.bind_eq_some_iff.mp H
          obtain ⟨t293,A140,H⟩:=H
          replace H:(cadencelaw4_Small.l0 kj3 l0 a1 a2 t293 (wrap64 (x8_1+1)))=some r:=H
          have A14:=Aside0.mk A140
          clear A140
          have H':=Aside0.mk H
          clear H
          obtain ⟨Ao15,co15,eo15⟩:=Kd.N_slice HO_7.out
          subst eo15
          try go_wp2
          have pi288:(0≤(t287:Int))=True:=eq_true (of_decide_eq_true (by first|(with_reducible assumption)|assumption))
          have qi288:(t287 < (y283.length:Int))=True:=eq_true (of_decide_eq_true (by first|(with_reducible assumption)|assumption))
          have n0_:=Aside0.mk (nD_ HO_7.out)
          have n1_:=Aside0.mk (bD_ HB.out)
          clear HO_7
          clear HB
          have HO_7:=n0_
          have HB:=n1_
          clear n0_ n1_
          have p286:0≤(x8_1:Int):=of_decide_eq_true (by first|(with_reducible assumption)|assumption)
          have q286:x8_1 < (l0.length:Int):=of_decide_eq_true (by first|(with_reducible assumption)|assumption)
          obtain ⟨ad286,A286_1,c286_1,e286,hx286_0,hx286_1,hl286_1,hi286_1⟩:=at_T67 HR0.out x8_1 p286 q286
          have hw286_1:=hx286_1
          have hw286_0:=hx286_0
          cases e286
          replace hx286_0:=(HB.out.cell (World.block_lt_of_cell? w _ hx286_0)).trans hx286_0
          replace hx286_1:=(HB.out.cell (World.block_lt_of_cell? w _ hx286_1)).trans hx286_1
          have HR286_1:=Aside0.mk hi286_1
          have HC286_1:=Aside0.mk hl286_1
          clear hi286_1 hl286_1
          replace p286:=eq_true p286
          replace q286:=eq_true q286
          have p289:0≤(x8_1:Int):=of_decide_eq_true (by first|(with_reducible assumption)|assumption)
          have q289:x8_1 < (l0.length:Int):=of_decide_eq_true (by first|(with_reducible assumption)|assumption)
          obtain ⟨ad289,A289_1,c289_1,e289,hx289_0,hx289_1,hl289_1,hi289_1⟩:=at_T67 HR0.out x8_1 p289 q289
          have hw289_1:=hx289_1
          have hw289_0:=hx289_0
          obtain rfl:ad286=ad289:=(by injection e289)
          replace hx289_0:=(HB.out.cell (World.block_lt_of_cell? w _ hx289_0)).trans hx289_0
          replace hx289_1:=(HB.out.cell (World.block_lt_of_cell? w _ hx289_1)).trans hx289_1
          have HR289_1:=Aside0.mk hi289_1
          have HC289_1:=Aside0.mk hl289_1
          clear hi289_1 hl289_1
          replace p289:=eq_true p289
          replace q289:=eq_true q289
          have ea_:=Option.some.inj (hx286_1.symm.trans hx289_1)
          injection ea_ with ea_ en_ ec_
          subst ea_
          subst ec_
          clear en_
          refine start_ (n:=22) (S:=fun w'=>w'.cell? (ad286.add ((x8_1).toNat * 2))=some (.string ((rd_T67 l0 x8_1).f0))∧w'.cell? ⟨(ad286.add ((x8_1).toNat * 2)).block,(ad286.add ((x8_1).toNat * 2)).off+1,none⟩=some (.slice A286_1 ((rd_T67 l0 x8_1).f1).length c286_1)∧w'.cell? (ad286.add ((x8_1).toNat * 2))=some (.string ((rd_T67 l0 x8_1).f0))∧w'.cell? ⟨(ad286.add ((x8_1).toNat * 2)).block,(ad286.add ((x8_1).toNat * 2)).off+1,none⟩=some (.slice A286_1 ((rd_T67 l0 x8_1).f1).length c286_1)) (ds:=[]) #[false,false,false,false,false,false,false,false,false,false,false,false,false,false,false,false,false,false,false,false,false,false] (by kernel_rfl) rfl rfl ⟨((HB.out.cell (World.block_lt_of_cell? w _ hw286_0)).trans hw286_0),((HB.out.cell (World.block_lt_of_cell? w _ hw286_1)).trans hw286_1),((HB.out.cell (World.block_lt_of_cell? w _ hw289_0)).trans hw289_0),((HB.out.cell (World.block_lt_of_cell? w _ hw289_1)).trans hw289_1)⟩ (fun hHeld=>?_);refine with_tabW cadencelaw4_Small.tab5 cadencelaw4_Small.bits5 (fun HT_ HW_=>?_)
          generalize wc.drew=w16 at HO_7 HB HR286_1 HR289_1 hx286_0 hx286_1 hx289_0 hx289_1 hHeld ⊢
          refine pure_ (i:=0) (N:=some 24) (v:=?_) (a':=?_) #[true,false,false,false,false,false,false,false,false,false,false,false,false,false,false,false,false,false,false,false,false,false] rfl rfl (any_of HT_.out (by kernel_rfl)) (fun _ _ _ h=>h) (Or.inl ⟨by rfl,?_⟩) ?_ ?_
          rotate_left
          ·intro w'
           go_simp
           with_reducible rfl
          rotate_left
          ·simp only [Act.put,List.setIfInBounds_toArray,List.set_cons_zero,List.set_cons_succ,i64_w,i32_w]
           rfl
          refine pure_ (i:=2) (N:=some 26) (v:=?_) (a':=?_) #[true,false,true,false,false,false,false,false,false,false,false,false,false,false,false,false,false,false,false,false,false,false] rfl rfl (any_of HT_.out (by kernel_rfl)) (fun _ _ _ h=>h) (Or.inl ⟨by rfl,?_⟩) ?_ ?_
          rotate_left
          ·intro w'
           go_simp
           with_reducible rfl
          rotate_left
          ·simp only [Act.put,List.setIfInBounds_toArray,List.set_cons_zero,List.set_cons_succ,i64_w,i32_w]
           rfl
          refine pure_ (i:=3) (N:=some 27) (v:=?_) (a':=?_) #[true,false,true,true,false,false,false,false,false,false,false,false,false,false,false,false,false,false,false,false,false,false] rfl rfl (any_of HT_.out (by kernel_rfl)) (fun _ _ _ h=>h) (Or.inl ⟨by rfl,?_⟩) ?_ ?_
          rotate_left
          ·intro w'
           go_simp
           with_reducible rfl
          rotate_left
          ·simp only [Act.put,List.setIfInBounds_toArray,List.set_cons_zero,List.set_cons_succ,i64_w,i32_w]
           rfl
          refine pure_ (i:=4) (N:=some 28) (v:=?_) (a':=?_) #[true,false,true,true,true,false,false,false,false,false,false,false,false,false,false,false,false,false,false,false,false,false] rfl rfl (any_of HT_.out (by kernel_rfl)) (fun _ _ _ h=>h) (Or.inl ⟨by rfl,?_⟩) ?_ ?_
          rotate_left
          ·intro w'
           go_simp
           with_reducible rfl
          rotate_left
          ·simp only [Act.put,List.setIfInBounds_toArray,List.set_cons_zero,List.set_cons_succ,i64_w,i32_w]
           rfl
          refine pure_ (i:=5) (N:=some 29) (v:=?_) (a':=?_) #[true,false,true,true,true,true,false,false,false,false,false,false,false,false,false,false,false,false,false,false,false,false] rfl rfl (any_of HT_.out (by kernel_rfl)) (fun _ _ _ h=>h) (Or.inl ⟨by rfl,?_⟩) ?_ ?_
          rotate_left
          ·intro w'
           go_simp
           with_reducible rfl
          rotate_left
          ·simp only [Act.put,List.setIfInBounds_toArray,List.set_cons_zero,List.set_cons_succ,i64_w,i32_w]
           rfl
          refine pure_ (i:=11) (N:=some 35) (v:=?_) (a':=?_) #[true,false,true,true,true,true,false,false,false,false,false,true,false,false,false,false,false,false,false,false,false,false] rfl rfl (any_of HT_.out (by kernel_rfl)) (fun _ _ _ h=>h) (Or.inl ⟨by rfl,?_⟩) ?_ ?_
          rotate_left
          ·intro w'
           go_simp
           with_reducible rfl
          rotate_left
          ·simp only [Act.put,List.setIfInBounds_toArray,List.set_cons_zero,List.set_cons_succ,i64_w,i32_w]
           rfl
          refine pure_ (i:=12) (N:=some 36) (v:=?_) (a':=?_) #[true,false,true,true,true,true,false,false,false,false,false,true,true,false,false,false,false,false,false,false,false,false] rfl rfl (any_of HT_.out (by kernel_rfl)) (fun _ _ _ h=>h) (Or.inl ⟨by rfl,?_⟩) ?_ ?_
          rotate_left
          ·intro w'
           go_simp
           with_reducible rfl
          rotate_left
          ·simp only [Act.put,List.setIfInBounds_toArray,List.set_cons_zero,List.set_cons_succ,i64_w,i32_w]
           rfl
          refine pure_ (i:=13) (N:=some 37) (v:=?_) (a':=?_) #[true,false,true,true,true,true,false,false,false,false,false,true,true,true,false,false,false,false,false,false,false,false] rfl rfl (any_of HT_.out (by kernel_rfl)) (fun _ _ _ h=>h) (Or.inl ⟨by rfl,?_⟩) ?_ ?_
          rotate_left
          ·intro w'
           go_simp
           with_reducible rfl
          rotate_left
          ·simp only [Act.put,List.setIfInBounds_toArray,List.set_cons_zero,List.set_cons_succ,i64_w,i32_w]
           rfl
          refine pure_ (i:=14) (N:=some 38) (v:=?_) (a':=?_) #[true,false,true,true,true,true,false,false,false,false,false,true,true,true,true,false,false,false,false,false,false,false] rfl rfl (any_of HT_.out (by kernel_rfl)) (fun _ _ _ h=>h) (Or.inl ⟨by rfl,?_⟩) ?_ ?_
          rotate_left
          ·intro w'
           go_simp
           with_reducible rfl
          rotate_left
          ·simp only [Act.put,List.setIfInBounds_toArray,List.set_cons_zero,List.set_cons_succ,i64_w,i32_w]
           rfl
          refine pure_ (i:=16) (N:=some 40) (v:=?_) (a':=?_) #[true,false,true,true,true,true,false,false,false,false,false,true,true,true,true,false,true,false,false,false,false,false] rfl rfl (any_of HT_.out (by kernel_rfl)) (fun _ _ _ h=>h) (Or.inl ⟨by rfl,?_⟩) ?_ ?_
          rotate_left
          ·intro w'
           go_simp
           with_reducible rfl
          rotate_left
          ·simp only [Act.put,List.setIfInBounds_toArray,List.set_cons_zero,List.set_cons_succ,i64_w,i32_w]
           rfl
          refine pure_ (i:=17) (N:=some 41) (v:=?_) (a':=?_) #[true,false,true,true,true,true,false,false,false,false,false,true,true,true,true,false,true,true,false,false,false,false] rfl rfl (any_of HT_.out (by kernel_rfl)) (fun _ _ _ h=>h) (Or.inl ⟨by rfl,?_⟩) ?_ ?_
          rotate_left
          ·intro w'
           go_simp
           with_reducible rfl
          rotate_left
          ·simp only [Act.put,List.setIfInBounds_toArray,List.set_cons_zero,List.set_cons_succ,i64_w,i32_w]
           rfl
          refine pure_ (i:=18) (N:=some 42) (v:=?_) (a':=?_) #[true,false,true,true,true,true,false,false,false,false,false,true,true,true,true,false,true,true,true,false,false,false] rfl rfl (any_of HT_.out (by kernel_rfl)) (fun _ _ _ h=>h) (Or.inl ⟨by rfl,?_⟩) ?_ ?_
          rotate_left
          ·intro w'
           go_simp
           with_reducible rfl
          rotate_left
          ·simp only [Act.put,List.setIfInBounds_toArray,List.set_cons_zero,List.set_cons_succ,i64_w,i32_w]
           rfl
          refine take_ (i:=6) (N:=some 30) (v:=?_) (a':=?_) #[true,false,true,true,true,true,true,false,false,false,false,true,true,true,true,false,true,true,true,false,false,false] rfl rfl (take_ofW HT_.out HW_.out (by kernel_rfl)) (fun _ _ _ h=>h) (Or.inl ⟨by rfl,?_⟩) hHeld ?_ ?_
          rotate_left
          ·rintro w' ⟨s0,s1,s2,s3⟩
           go_simp
           with_reducible rfl
          rotate_left
          ·simp only [Act.put,List.setIfInBounds_toArray,List.set_cons_zero,List.set_cons_succ,i64_w,i32_w]
           rfl
          refine pure_ (i:=7) (N:=some 31) (v:=?_) (a':=?_) #[true,false,true,true,true,true,true,true,false,false,false,true,true,true,true,false,true,true,true,false,false,false] rfl rfl (any_of HT_.out (by kernel_rfl)) (fun _ _ _ h=>h) (Or.inl ⟨by rfl,?_⟩) ?_ ?_
          rotate_left
          ·intro w'
           go_simp
           with_reducible rfl
          rotate_left
          ·simp only [Act.put,List.setIfInBounds_toArray,List.set_cons_zero,List.set_cons_succ,i64_w,i32_w]
           rfl
          refine take_ (i:=15) (N:=some 39) (v:=?_) (a':=?_) #[true,false,true,true,true,true,true,true,false,false,false,true,true,true,true,true,true,true,true,false,false,false] rfl rfl (take_ofW HT_.out HW_.out (by kernel_rfl)) (fun _ _ _ h=>h) (Or.inl ⟨by rfl,?_⟩) hHeld ?_ ?_
          rotate_left
          ·rintro w' ⟨s0,s1,s2,s3⟩
           go_simp
           with_reducible rfl
          rotate_left
          ·simp only [Act.put,List.setIfInBounds_toArray,List.set_cons_zero,List.set_cons_succ,i64_w,i32_w]
           rfl
          refine join_ (σ:=Value × Addr × Value) 2 #[true,true,true,true,true,true,true,true,true,true,true,true,true,true,true,true,true,true,true,true,false,false] (fun s_=>[(25,s_.1),(32,.int .i64 t287),(34,.string (rdOf ByteArray.empty y283 t287)),(43,s_.2.2),(33,.pointer (some (s_.2.1.add (t287).toNat)))]) (fun s_ w'=>(w'.cell? (ad286.add ((x8_1).toNat * 2))=some (.string ((rd_T67 l0 x8_1).f0))∧w'.cell? ⟨(ad286.add ((x8_1).toNat * 2)).block,(ad286.add ((x8_1).toNat * 2)).off+1,none⟩=some (.slice A286_1 ((rd_T67 l0 x8_1).f1).length c286_1)∧w'.cell? (ad286.add ((x8_1).toNat * 2))=some (.string ((rd_T67 l0 x8_1).f0))∧w'.cell? ⟨(ad286.add ((x8_1).toNat * 2)).block,(ad286.add ((x8_1).toNat * 2)).off+1,none⟩=some (.slice A286_1 ((rd_T67 l0 x8_1).f1).length c286_1))∧(Kd.R Kd.string 9 w' w.heap.size (fun k_=>(w.heap.size≤k_)) s_.1 y283)∧(Kd.N k53 53 w' w.heap.size (fun k_=>(w.heap.size≤k_)∧some k_≠(s_.1:Value).ownBlock∧some k_≠(.slice Ao15 x7_1.length co15:Value).ownBlock) s_.2.2 t290)∧(Kd.N k53 53 w' w.heap.size (fun k_=>(w.heap.size≤k_)∧some k_≠(s_.1:Value).ownBlock∧some k_≠(s_.2.2:Value).ownBlock) (.slice Ao15 x7_1.length co15) x7_1)∧(∃ c_,(s_.1:Value)=.slice (some s_.2.1) y283.length c_)∧(Below w.heap.size w w')) ?_ ?_
          rotate_left
          ·intro hJ1_8_10_19
           refine join_ (σ:=Value × Addr) 3 #[true,true,true,true,true,true,true,true,true,true,true,true,true,true,true,true,true,true,true,false,false,false] (fun s_=>[(25,s_.1),(32,.int .i64 t287),(34,.string (rdOf ByteArray.empty y283 t287)),(33,.pointer (some (s_.2.add (t287).toNat)))]) (fun s_ w'=>(w'.cell? (ad286.add ((x8_1).toNat * 2))=some (.string ((rd_T67 l0 x8_1).f0))∧w'.cell? ⟨(ad286.add ((x8_1).toNat * 2)).block,(ad286.add ((x8_1).toNat * 2)).off+1,none⟩=some (.slice A286_1 ((rd_T67 l0 x8_1).f1).length c286_1)∧w'.cell? (ad286.add ((x8_1).toNat * 2))=some (.string ((rd_T67 l0 x8_1).f0))∧w'.cell? ⟨(ad286.add ((x8_1).toNat * 2)).block,(ad286.add ((x8_1).toNat * 2)).off+1,none⟩=some (.slice A286_1 ((rd_T67 l0 x8_1).f1).length c286_1))∧(Kd.R Kd.string 9 w' w.heap.size (fun k_=>(w.heap.size≤k_)) s_.1 y283)∧(Kd.N k53 53 w' w.heap.size (fun k_=>(w.heap.size≤k_)∧some k_≠(s_.1:Value).ownBlock) (.slice Ao15 x7_1.length co15) x7_1)∧(∃ c_,(s_.1:Value)=.slice (some s_.2) y283.length c_)∧(Below w.heap.size w w')) ?_ ?_
           rotate_left
           ·intro hJ1_8_10
            refine join_ (σ:=Value × Addr × Value) 3 #[true,true,true,true,true,true,true,true,true,true,false,true,true,true,true,true,true,true,true,true,false,false] (fun s_=>[(25,s_.1),(32,.int .i64 t287),(43,s_.2.2),(33,.pointer (some (s_.2.1.add (t287).toNat)))]) (fun s_ w'=>(w'.cell? (ad286.add ((x8_1).toNat * 2))=some (.string ((rd_T67 l0 x8_1).f0))∧w'.cell? ⟨(ad286.add ((x8_1).toNat * 2)).block,(ad286.add ((x8_1).toNat * 2)).off+1,none⟩=some (.slice A286_1 ((rd_T67 l0 x8_1).f1).length c286_1)∧w'.cell? (ad286.add ((x8_1).toNat * 2))=some (.string ((rd_T67 l0 x8_1).f0))∧w'.cell? ⟨(ad286.add ((x8_1).toNat * 2)).block,(ad286.add ((x8_1).toNat * 2)).off+1,none⟩=some (.slice A286_1 ((rd_T67 l0 x8_1).f1).length c286_1))∧(Kd.R Kd.string 9 w' w.heap.size (fun k_=>(w.heap.size≤k_)) s_.1 y283)∧(Kd.N k53 53 w' w.heap.size (fun k_=>(w.heap.size≤k_)∧some k_≠(s_.1:Value).ownBlock∧some k_≠(.slice Ao15 x7_1.length co15:Value).ownBlock) s_.2.2 t290)∧(Kd.N k53 53 w' w.heap.size (fun k_=>(w.heap.size≤k_)∧some k_≠(s_.1:Value).ownBlock∧some k_≠(s_.2.2:Value).ownBlock) (.slice Ao15 x7_1.length co15) x7_1)∧(∃ c_,(s_.1:Value)=.slice (some s_.2.1) y283.length c_)∧(Below w.heap.size w w')) ?_ ?_
            rotate_left
            ·intro hJ1_8_19
             refine join_ (σ:=Value × Addr) 4 #[true,true,true,true,true,true,true,true,true,true,false,true,true,true,true,true,true,true,true,false,false,false] (fun s_=>[(25,s_.1),(32,.int .i64 t287),(33,.pointer (some (s_.2.add (t287).toNat)))]) (fun s_ w'=>(w'.cell? (ad286.add ((x8_1).toNat * 2))=some (.string ((rd_T67 l0 x8_1).f0))∧w'.cell? ⟨(ad286.add ((x8_1).toNat * 2)).block,(ad286.add ((x8_1).toNat * 2)).off+1,none⟩=some (.slice A286_1 ((rd_T67 l0 x8_1).f1).length c286_1)∧w'.cell? (ad286.add ((x8_1).toNat * 2))=some (.string ((rd_T67 l0 x8_1).f0))∧w'.cell? ⟨(ad286.add ((x8_1).toNat * 2)).block,(ad286.add ((x8_1).toNat * 2)).off+1,none⟩=some (.slice A286_1 ((rd_T67 l0 x8_1).f1).length c286_1))∧(Kd.R Kd.string 9 w' w.heap.size (fun k_=>(w.heap.size≤k_)) s_.1 y283)∧(Kd.N k53 53 w' w.heap.size (fun k_=>(w.heap.size≤k_)∧some k_≠(s_.1:Value).ownBlock) (.slice Ao15 x7_1.length co15) x7_1)∧(∃ c_,(s_.1:Value)=.slice (some s_.2) y283.length c_)∧(Below w.heap.size w w')) ?_ ?_
             rotate_left
             ·intro hJ1_8
              refine join_ (σ:=Value) 5 #[true,false,true,true,true,true,true,true,true,false,false,true,true,true,true,true,true,true,true,true,false,false] (fun s_=>[(32,.int .i64 t287),(43,s_)]) (fun s_ w'=>(w'.cell? (ad286.add ((x8_1).toNat * 2))=some (.string ((rd_T67 l0 x8_1).f0))∧w'.cell? ⟨(ad286.add ((x8_1).toNat * 2)).block,(ad286.add ((x8_1).toNat * 2)).off+1,none⟩=some (.slice A286_1 ((rd_T67 l0 x8_1).f1).length c286_1)∧w'.cell? (ad286.add ((x8_1).toNat * 2))=some (.string ((rd_T67 l0 x8_1).f0))∧w'.cell? ⟨(ad286.add ((x8_1).toNat * 2)).block,(ad286.add ((x8_1).toNat * 2)).off+1,none⟩=some (.slice A286_1 ((rd_T67 l0 x8_1).f1).length c286_1))∧(Kd.N k53 53 w' w.heap.size (fun k_=>(w.heap.size≤k_)∧some k_≠(.slice Ao15 x7_1.length co15:Value).ownBlock) s_ t290)∧(Kd.N k53 53 w' w.heap.size (fun k_=>(w.heap.size≤k_)∧some k_≠(s_:Value).ownBlock) (.slice Ao15 x7_1.length co15) x7_1)∧(Below w.heap.size w w')) ?_ ?_
              rotate_left
              ·intro hJ8_19
               refine join_ (σ:=Value × Addr) 6 #[true,true,true,true,true,true,true,true,false,false,false,true,true,true,true,true,true,true,true,false,false,false] (fun s_=>[(25,s_.1)]) (fun s_ w'=>(w'.cell? (ad286.add ((x8_1).toNat * 2))=some (.string ((rd_T67 l0 x8_1).f0))∧w'.cell? ⟨(ad286.add ((x8_1).toNat * 2)).block,(ad286.add ((x8_1).toNat * 2)).off+1,none⟩=some (.slice A286_1 ((rd_T67 l0 x8_1).f1).length c286_1)∧w'.cell? (ad286.add ((x8_1).toNat * 2))=some (.string ((rd_T67 l0 x8_1).f0))∧w'.cell? ⟨(ad286.add ((x8_1).toNat * 2)).block,(ad286.add ((x8_1).toNat * 2)).off+1,none⟩=some (.slice A286_1 ((rd_T67 l0 x8_1).f1).length c286_1))∧(Kd.R Kd.string 9 w' w.heap.size (fun k_=>(w.heap.size≤k_)) s_.1 y283)∧(Kd.N k53 53 w' w.heap.size (fun k_=>(w.heap.size≤k_)∧some k_≠(s_.1:Value).ownBlock) (.slice Ao15 x7_1.length co15) x7_1)∧(∃ c_,(s_.1:Value)=.slice (some s_.2) y283.length c_)∧(Below w.heap.size w w')) ?_ ?_
               rotate_left
               ·intro hJ1
                refine join_ (σ:=Unit) 6 #[true,false,true,true,true,true,true,true,true,false,false,true,true,true,true,true,true,true,true,false,false,false] (fun s_=>[(32,.int .i64 t287)]) (fun s_ w'=>(w'.cell? (ad286.add ((x8_1).toNat * 2))=some (.string ((rd_T67 l0 x8_1).f0))∧w'.cell? ⟨(ad286.add ((x8_1).toNat * 2)).block,(ad286.add ((x8_1).toNat * 2)).off+1,none⟩=some (.slice A286_1 ((rd_T67 l0 x8_1).f1).length c286_1)∧w'.cell? (ad286.add ((x8_1).toNat * 2))=some (.string ((rd_T67 l0 x8_1).f0))∧w'.cell? ⟨(ad286.add ((x8_1).toNat * 2)).block,(ad286.add ((x8_1).toNat * 2)).off+1,none⟩=some (.slice A286_1 ((rd_T67 l0 x8_1).f1).length c286_1))∧(Kd.N k53 53 w' w.heap.size (fun k_=>(w.heap.size≤k_)) (.slice Ao15 x7_1.length co15) x7_1)∧(Below w.heap.size w w')) ?_ ?_
                rotate_left
                ·intro hJ8
                 refine two_ (i:=1) (j:=8) (Ni:=some 25) (Nj:=some 32) #[true,true,true,true,true,true,true,true,false,false,false,true,true,true,true,true,true,true,true,false,false,false] #[true,false,true,true,true,true,true,true,true,false,false,true,true,true,true,true,true,true,true,false,false,false] rfl rfl rfl rfl (two_of HT_.out (by kernel_rfl)) (by decide) (by decide) (fun K hK=>?_) (fun K hK=>?_)
                 ·skip
                  refine Kd.R_lit_step Kd.string _ 9 ?hg (N:=25) ?hd (xs:=([(⟨#[]⟩:ByteArray),(⟨#[97]⟩:ByteArray),(⟨#[98]⟩:ByteArray),(⟨#[99]⟩:ByteArray),(⟨#[100]⟩:ByteArray)]:List ByteArray)) (inner:=[.string (⟨#[]⟩:ByteArray),.string (⟨#[97]⟩:ByteArray),.string (⟨#[98]⟩:ByteArray),.string (⟨#[99]⟩:ByteArray),.string (⟨#[100]⟩:ByteArray)]) (ok:=fun _=>True) (okp:=fun _=>True) ?hr ?hp (fun _ hk=>hk) trivial (Below.refl _ _) (Nat.le_refl _) (by simp) ?_;(case hd=>rfl);(case hg=>rfl);(case hr=>first|(go_simp;done)|(go_simp;rfl));(case hp=>exact (Reps.one (show Kd.M Kd.string _ _ _ (⟨#[]⟩:ByteArray) [.string (⟨#[]⟩:ByteArray)] from rfl) (Reps.one (show Kd.M Kd.string _ _ _ (⟨#[97]⟩:ByteArray) [.string (⟨#[97]⟩:ByteArray)] from rfl) (Reps.one (show Kd.M Kd.string _ _ _ (⟨#[98]⟩:ByteArray) [.string (⟨#[98]⟩:ByteArray)] from rfl) (Reps.one (show Kd.M Kd.string _ _ _ (⟨#[99]⟩:ByteArray) [.string (⟨#[99]⟩:ByteArray)] from rfl) (Reps.one (show Kd.M Kd.string _ _ _ (⟨#[100]⟩:ByteArray) [.string (⟨#[100]⟩:ByteArray)] from rfl) (Reps.none _ _)))))))
                  intro v284 w17 ho18 hb hg_ hnew_
                  clear hg_ hnew_
                  (first|rw [← Ny283.out] at ho18|(simp only [Int.reduceToNat] at ho18;rw [← Ny283.out] at ho18))
                  have n0_:=Aside0.mk (Kd.N_elder' (by (with_reducible repeat (first|apply nA_|apply nN_|apply nD_));exact HO_7.out) (Kd.R_base ho18) hb)
                  have n1_:=Aside0.mk (Kd.R_lower (Kd.R_newM (M:=fun k_=>(w.heap.size≤k_)) ho18 (below_size (by repeat (first|(with_reducible first|exact HB.out|apply bA_|apply bN_|apply bD_)|exact HB.out))) (fun k_ h_=>h_)) (below_size (by repeat (first|(with_reducible first|exact HB.out|apply bA_|apply bN_|apply bD_)|exact HB.out))))
                  have n2_:=Aside0.mk (below_step (by repeat (first|(with_reducible first|exact HB.out|apply bA_|apply bN_|apply bD_)|exact HB.out)) hb)
                  clear HO_7
                  clear HB
                  have HO_7:=n0_
                  have HO285:=n1_
                  have HB:=n2_
                  clear n0_ n1_ n2_
                  clear hb ho18
                  obtain ⟨Ao19,co19,eo19⟩:=Kd.R_slice HO285.out
                  subst eo19
                  obtain ⟨ado19,fo19,_⟩:=Kd.at_string (Kd.R_reads' HO285.out).2.2 0 (by decide) (by rw [Ny283.out];simp)
                  cases fo19
                  refine hK.out _ _ ⟨((HB.out.cell (World.block_lt_of_cell? w _ hw286_0)).trans hw286_0),((HB.out.cell (World.block_lt_of_cell? w _ hw286_1)).trans hw286_1),((HB.out.cell (World.block_lt_of_cell? w _ hw289_0)).trans hw289_0),((HB.out.cell (World.block_lt_of_cell? w _ hw289_1)).trans hw289_1)⟩ (fun hHeld=>?_)
                  clear hK K
                  refine norm_ (a':=?_) ?_ ?_
                  rotate_left
                  ·show Act.put _ (some 25) _=_
                   simp only [Act.put,List.setIfInBounds_toArray,List.set_cons_zero,List.set_cons_succ,i64_w,i32_w]
                   rfl
                  exact norm_ (by first|(simp only [putAll,Act.put,List.setIfInBounds_toArray,List.set_cons_zero,List.set_cons_succ];done)|(simp only [putAll,Act.put,List.setIfInBounds_toArray,List.set_cons_zero,List.set_cons_succ];rfl)) (hJ1 (.slice (some ado19) y283.length co19,ado19) _ ⟨hHeld,(by (with_reducible repeat (first|apply rA_|apply rN_|apply rD_));exact Kd.R_mono HO285.out (fun _ hk=>hk.1)),(by (with_reducible repeat (first|apply nA_|apply nN_|apply nD_));exact HO_7.out),⟨_,rfl⟩,(by repeat (first|(with_reducible first|exact HB.out|apply bA_|apply bN_|apply bD_)|exact HB.out))⟩)
                 ·skip
                  refine goes_ Try.func13 (by kernel_rfl) rfl #[.int .i64 (((rd_T67 l0 x8_1).f0).size:Int),.int .i64 5] (by rfl) rfl rfl (by (try simp only [List.map_toArray,List.map_cons,List.map_nil]);first|done|rfl|(simp only [List.length_drop,List.length_take];rfl)) ?_
                  with_reducible refine (cadencelaw4_within.calls (((rd_T67 l0 x8_1).f0).size:Int) 5 t287 _ A10.out).mono ?_
                  rintro e w' ⟨rfl,⟨nd,rfl⟩⟩
                  refine ⟨_,rfl,?_⟩
                  refine hK.out _ _ ⟨((HB.out.cell (World.block_lt_of_cell? w _ hw286_0)).trans hw286_0),((HB.out.cell (World.block_lt_of_cell? w _ hw286_1)).trans hw286_1),((HB.out.cell (World.block_lt_of_cell? w _ hw289_0)).trans hw289_0),((HB.out.cell (World.block_lt_of_cell? w _ hw289_1)).trans hw289_1)⟩ (fun hHeld=>?_)
                  clear hK K
                  refine norm_ (a':=?_) ?_ ?_
                  rotate_left
                  ·show Act.put _ (some 32) _=_
                   simp only [Act.put,List.setIfInBounds_toArray,List.set_cons_zero,List.set_cons_succ,i64_w,i32_w]
                   rfl
                  exact norm_ (by first|(simp only [putAll,Act.put,List.setIfInBounds_toArray,List.set_cons_zero,List.set_cons_succ];done)|(simp only [putAll,Act.put,List.setIfInBounds_toArray,List.set_cons_zero,List.set_cons_succ];rfl)) (hJ8 () _ ⟨hHeld,(by (with_reducible repeat (first|apply nA_|apply nN_|apply nD_));exact HO_7.out),(by repeat (first|(with_reducible first|exact HB.out|apply bA_|apply bN_|apply bD_)|exact HB.out))⟩)
                ·skip
                 rintro _ w17 ⟨hS_,h0_,h1_⟩
                 have n0_:Aside0 (Kd.N k53 53 w17 w.heap.size (fun k_=>(w.heap.size≤k_)) (.slice Ao15 x7_1.length co15) x7_1):=⟨h0_⟩
                 have n1_:Aside0 (Below w.heap.size w w17):=⟨h1_⟩
                 clear HO_7
                 clear HB
                 clear h0_ h1_
                 have HO_7:=n0_
                 have HB:=n1_
                 clear n0_ n1_
                 have hHeld:w17.cell? (ad286.add ((x8_1).toNat * 2))=some (.string ((rd_T67 l0 x8_1).f0))∧w17.cell? ⟨(ad286.add ((x8_1).toNat * 2)).block,(ad286.add ((x8_1).toNat * 2)).off+1,none⟩=some (.slice A286_1 ((rd_T67 l0 x8_1).f1).length c286_1)∧w17.cell? (ad286.add ((x8_1).toNat * 2))=some (.string ((rd_T67 l0 x8_1).f0))∧w17.cell? ⟨(ad286.add ((x8_1).toNat * 2)).block,(ad286.add ((x8_1).toNat * 2)).off+1,none⟩=some (.slice A286_1 ((rd_T67 l0 x8_1).f1).length c286_1):=hS_
                 refine norm_ (a':=?_) ?_ ?_
                 rotate_left
                 ·simp only [putAll,Act.put,List.setIfInBounds_toArray,List.set_cons_zero,List.set_cons_succ]
                  rfl
                 refine two_ (i:=1) (j:=19) (Ni:=some 25) (Nj:=some 43) #[true,true,true,true,true,true,true,true,true,false,false,true,true,true,true,true,true,true,true,false,false,false] #[true,false,true,true,true,true,true,true,true,false,false,true,true,true,true,true,true,true,true,true,false,false] rfl rfl rfl rfl (two_of HT_.out (by kernel_rfl)) (by decide) (by decide) (fun K hK=>?_) (fun K hK=>?_)
                 ·skip
                  refine Kd.R_lit_step Kd.string _ 9 ?hg (N:=25) ?hd (xs:=([(⟨#[]⟩:ByteArray),(⟨#[97]⟩:ByteArray),(⟨#[98]⟩:ByteArray),(⟨#[99]⟩:ByteArray),(⟨#[100]⟩:ByteArray)]:List ByteArray)) (inner:=[.string (⟨#[]⟩:ByteArray),.string (⟨#[97]⟩:ByteArray),.string (⟨#[98]⟩:ByteArray),.string (⟨#[99]⟩:ByteArray),.string (⟨#[100]⟩:ByteArray)]) (ok:=fun _=>True) (okp:=fun _=>True) ?hr ?hp (fun _ hk=>hk) trivial (Below.refl _ _) (Nat.le_refl _) (by simp) ?_;(case hd=>rfl);(case hg=>rfl);(case hr=>first|(go_simp;done)|(go_simp;rfl));(case hp=>exact (Reps.one (show Kd.M Kd.string _ _ _ (⟨#[]⟩:ByteArray) [.string (⟨#[]⟩:ByteArray)] from rfl) (Reps.one (show Kd.M Kd.string _ _ _ (⟨#[97]⟩:ByteArray) [.string (⟨#[97]⟩:ByteArray)] from rfl) (Reps.one (show Kd.M Kd.string _ _ _ (⟨#[98]⟩:ByteArray) [.string (⟨#[98]⟩:ByteArray)] from rfl) (Reps.one (show Kd.M Kd.string _ _ _ (⟨#[99]⟩:ByteArray) [.string (⟨#[99]⟩:ByteArray)] from rfl) (Reps.one (show Kd.M Kd.string _ _ _ (⟨#[100]⟩:ByteArray) [.string (⟨#[100]⟩:ByteArray)] from rfl) (Reps.none _ _)))))))
                  intro v284 w18 ho19 hb hg_ hnew_
                  clear hg_ hnew_
                  (first|rw [← Ny283.out] at ho19|(simp only [Int.reduceToNat] at ho19;rw [← Ny283.out] at ho19))
                  have n0_:=Aside0.mk (Kd.N_elder' (by (with_reducible repeat (first|apply nA_|apply nN_|apply nD_));exact HO_7.out) (Kd.R_base ho19) hb)
                  have n1_:=Aside0.mk (Kd.R_lower (Kd.R_newM (M:=fun k_=>(w.heap.size≤k_)) ho19 (below_size (by repeat (first|(with_reducible first|exact HB.out|apply bA_|apply bN_|apply bD_)|exact HB.out))) (fun k_ h_=>h_)) (below_size (by repeat (first|(with_reducible first|exact HB.out|apply bA_|apply bN_|apply bD_)|exact HB.out))))
                  have n2_:=Aside0.mk (below_step (by repeat (first|(with_reducible first|exact HB.out|apply bA_|apply bN_|apply bD_)|exact HB.out)) hb)
                  clear HO_7
                  clear HB
                  have HO_7:=n0_
                  have HO285:=n1_
                  have HB:=n2_
                  clear n0_ n1_ n2_
                  clear hb ho19
                  obtain ⟨Ao20,co20,eo20⟩:=Kd.R_slice HO285.out
                  subst eo20
                  obtain ⟨ado20,fo20,_⟩:=Kd.at_string (Kd.R_reads' HO285.out).2.2 0 (by decide) (by rw [Ny283.out];simp)
                  cases fo20
                  refine hK.out _ _ ⟨((HB.out.cell (World.block_lt_of_cell? w _ hw286_0)).trans hw286_0),((HB.out.cell (World.block_lt_of_cell? w _ hw286_1)).trans hw286_1),((HB.out.cell (World.block_lt_of_cell? w _ hw289_0)).trans hw289_0),((HB.out.cell (World.block_lt_of_cell? w _ hw289_1)).trans hw289_1)⟩ (fun hHeld=>?_)
                  clear hK K
                  refine norm_ (a':=?_) ?_ ?_
                  rotate_left
                  ·show Act.put _ (some 25) _=_
                   simp only [Act.put,List.setIfInBounds_toArray,List.set_cons_zero,List.set_cons_succ,i64_w,i32_w]
                   rfl
                  refine pure_ (i:=9) (N:=some 33) (v:=?_) (a':=?_) #[true,true,true,true,true,true,true,true,true,true,false,true,true,true,true,true,true,true,true,false,false,false] rfl rfl (any_of HT_.out (by kernel_rfl)) (fun _ _ _ h=>h) (Or.inl ⟨by rfl,?_⟩) ?_ ?_
                  rotate_left
                  ·intro w'
                   go_simp
                   with_reducible rfl
                  rotate_left
                  ·simp only [Act.put,List.setIfInBounds_toArray,List.set_cons_zero,List.set_cons_succ,i64_w,i32_w]
                   rfl
                  exact norm_ (by first|(simp only [putAll,Act.put,List.setIfInBounds_toArray,List.set_cons_zero,List.set_cons_succ];done)|(simp only [putAll,Act.put,List.setIfInBounds_toArray,List.set_cons_zero,List.set_cons_succ];rfl)) (hJ1_8 (.slice (some ado20) y283.length co20,ado20) _ ⟨hHeld,(by (with_reducible repeat (first|apply rA_|apply rN_|apply rD_));exact Kd.R_mono HO285.out (fun _ hk=>hk.1)),(by (with_reducible repeat (first|apply nA_|apply nN_|apply nD_));exact HO_7.out),⟨_,rfl⟩,(by repeat (first|(with_reducible first|exact HB.out|apply bA_|apply bN_|apply bD_)|exact HB.out))⟩)
                 ·skip
                  refine goes_ Try.func15 (by kernel_rfl) rfl #[.slice A286_1 ((rd_T67 l0 x8_1).f1).length c286_1,.int .i64 a1,.int .i64 (wrap64 (a2 - 1))] (by rfl) rfl rfl (by (try simp only [List.map_toArray,List.map_cons,List.map_nil]);first|done|rfl|(simp only [List.length_drop,List.length_take];rfl)) ?_
                  with_reducible refine (ih kj3 (by have:=HK1.out;have:=HJ3.out;omega) _ _ ((rd_T67 l0 x8_1).f1) a1 (wrap64 (a2 - 1)) t290 _ ?side1 ?side2 A13.out).mono ?_
                  (case side1=>repeat (first|exact (Kd.C_below HR289_1.out HB.out)|(with_reducible refine cA_ ?_ _)|(with_reducible refine cN_ ?_ _)|(with_reducible refine cD_ ?_)))
                  (case side2=>exact HC289_1.out)
                  rintro e w18 ⟨v291,rfl,ho0,hb⟩
                  refine ⟨_,rfl,?_⟩
                  have n0_:=Aside0.mk (Kd.N_elder' (by (with_reducible repeat (first|apply nA_|apply nN_|apply nD_));exact HO_7.out) (Kd.N_base ho0) hb)
                  have n1_:=Aside0.mk (Kd.N_lower (Kd.N_mono (ok':=fun k_=>(w.heap.size≤k_)∧some k_≠(.slice Ao15 x7_1.length co15:Value).ownBlock) ho0 (fun k_ hk_=>⟨(Nat.le_trans (below_size (by repeat (first|(with_reducible first|exact HB.out|apply bA_|apply bN_|apply bD_)|exact HB.out))) hk_),(Kd.fresh' (Kd.N_lt (by (with_reducible repeat (first|apply nA_|apply nN_|apply nD_));exact HO_7.out)) k_ hk_)⟩)) (below_size (by repeat (first|(with_reducible first|exact HB.out|apply bA_|apply bN_|apply bD_)|exact HB.out))))
                  have n2_:=Aside0.mk (below_step (by repeat (first|(with_reducible first|exact HB.out|apply bA_|apply bN_|apply bD_)|exact HB.out)) hb)
                  clear HO_7
                  clear HB
                  have HO_7:=n0_
                  have HO292:=n1_
                  have HB:=n2_
                  clear n0_ n1_ n2_
                  (try clear hb)
                  (try clear hb2)
                  (try clear hk)
                  (try clear hi)
                  (try clear ho0)
                  refine hK.out _ _ ⟨((HB.out.cell (World.block_lt_of_cell? w _ hw286_0)).trans hw286_0),((HB.out.cell (World.block_lt_of_cell? w _ hw286_1)).trans hw286_1),((HB.out.cell (World.block_lt_of_cell? w _ hw289_0)).trans hw289_0),((HB.out.cell (World.block_lt_of_cell? w _ hw289_1)).trans hw289_1)⟩ (fun hHeld=>?_)
                  clear hK K
                  refine norm_ (a':=?_) ?_ ?_
                  rotate_left
                  ·show Act.put _ (some 43) _=_
                   simp only [Act.put,List.setIfInBounds_toArray,List.set_cons_zero,List.set_cons_succ,i64_w,i32_w]
                   rfl
                  exact norm_ (by first|(simp only [putAll,Act.put,List.setIfInBounds_toArray,List.set_cons_zero,List.set_cons_succ];done)|(simp only [putAll,Act.put,List.setIfInBounds_toArray,List.set_cons_zero,List.set_cons_succ];rfl)) (hJ8_19 (v291) _ ⟨hHeld,(by (with_reducible repeat (first|apply nA_|apply nN_|apply nD_));exact HO292.out),(by (with_reducible repeat (first|apply nA_|apply nN_|apply nD_));exact HO_7.out),(by repeat (first|(with_reducible first|exact HB.out|apply bA_|apply bN_|apply bD_)|exact HB.out))⟩)
               ·skip
                rintro ⟨v284,adz_v284⟩ w20 ⟨hS_,h0_,h1_,h2_,h3_⟩
                have n0_:Aside0 (Kd.R Kd.string 9 w20 w.heap.size (fun k_=>(w.heap.size≤k_)) v284 y283):=⟨h0_⟩
                have n1_:Aside0 (Kd.N k53 53 w20 w.heap.size (fun k_=>(w.heap.size≤k_)∧some k_≠(v284:Value).ownBlock) (.slice Ao15 x7_1.length co15) x7_1):=⟨h1_⟩
                have n2_:Aside0 (∃ c_,(v284:Value)=.slice (some adz_v284) y283.length c_):=⟨h2_⟩
                have n3_:Aside0 (Below w.heap.size w w20):=⟨h3_⟩
                clear HO_7
                clear HB
                clear h0_ h1_ h2_ h3_
                have HO285:=n0_
                have HO_7:=n1_
                have HA_HO285:=n2_
                have HB:=n3_
                clear n0_ n1_ n2_ n3_
                have hHeld:w20.cell? (ad286.add ((x8_1).toNat * 2))=some (.string ((rd_T67 l0 x8_1).f0))∧w20.cell? ⟨(ad286.add ((x8_1).toNat * 2)).block,(ad286.add ((x8_1).toNat * 2)).off+1,none⟩=some (.slice A286_1 ((rd_T67 l0 x8_1).f1).length c286_1)∧w20.cell? (ad286.add ((x8_1).toNat * 2))=some (.string ((rd_T67 l0 x8_1).f0))∧w20.cell? ⟨(ad286.add ((x8_1).toNat * 2)).block,(ad286.add ((x8_1).toNat * 2)).off+1,none⟩=some (.slice A286_1 ((rd_T67 l0 x8_1).f1).length c286_1):=hS_
                obtain ⟨co21,eo21⟩:=HA_HO285.out
                clear HA_HO285
                subst eo21
                refine norm_ (a':=?_) ?_ ?_
                rotate_left
                ·simp only [putAll,Act.put,List.setIfInBounds_toArray,List.set_cons_zero,List.set_cons_succ]
                 rfl
                refine one_ (i:=8) (N:=some 32) #[true,true,true,true,true,true,true,true,true,false,false,true,true,true,true,true,true,true,true,false,false,false] rfl rfl (one_of HT_.out (by kernel_rfl)) (by decide) (fun K hK=>?_)
                refine goes_ Try.func13 (by kernel_rfl) rfl #[.int .i64 (((rd_T67 l0 x8_1).f0).size:Int),.int .i64 5] (by rfl) rfl rfl (by (try simp only [List.map_toArray,List.map_cons,List.map_nil]);first|done|rfl|(simp only [List.length_drop,List.length_take];rfl)) ?_
                with_reducible refine (cadencelaw4_within.calls (((rd_T67 l0 x8_1).f0).size:Int) 5 t287 _ A10.out).mono ?_
                rintro e w' ⟨rfl,⟨nd,rfl⟩⟩
                refine ⟨_,rfl,?_⟩
                refine hK.out _ _ ⟨((HB.out.cell (World.block_lt_of_cell? w _ hw286_0)).trans hw286_0),((HB.out.cell (World.block_lt_of_cell? w _ hw286_1)).trans hw286_1),((HB.out.cell (World.block_lt_of_cell? w _ hw289_0)).trans hw289_0),((HB.out.cell (World.block_lt_of_cell? w _ hw289_1)).trans hw289_1)⟩ (fun hHeld=>?_)
                clear hK K
                refine norm_ (a':=?_) ?_ ?_
                rotate_left
                ·show Act.put _ (some 32) _=_
                 simp only [Act.put,List.setIfInBounds_toArray,List.set_cons_zero,List.set_cons_succ,i64_w,i32_w]
                 rfl
                refine pure_ (i:=9) (N:=some 33) (v:=?_) (a':=?_) #[true,true,true,true,true,true,true,true,true,true,false,true,true,true,true,true,true,true,true,false,false,false] rfl rfl (any_of HT_.out (by kernel_rfl)) (fun _ _ _ h=>h) (Or.inl ⟨by rfl,?_⟩) ?_ ?_
                rotate_left
                ·intro w'
                 go_simp
                 with_reducible rfl
                rotate_left
                ·simp only [Act.put,List.setIfInBounds_toArray,List.set_cons_zero,List.set_cons_succ,i64_w,i32_w]
                 rfl
                exact norm_ (by first|(simp only [putAll,Act.put,List.setIfInBounds_toArray,List.set_cons_zero,List.set_cons_succ];done)|(simp only [putAll,Act.put,List.setIfInBounds_toArray,List.set_cons_zero,List.set_cons_succ];rfl)) (hJ1_8 (.slice (some adz_v284) y283.length co21,adz_v284) _ ⟨hHeld,(by (with_reducible repeat (first|apply rA_|apply rN_|apply rD_));exact HO285.out),(by (with_reducible repeat (first|apply nA_|apply nN_|apply nD_));exact HO_7.out),⟨_,rfl⟩,(by repeat (first|(with_reducible first|exact HB.out|apply bA_|apply bN_|apply bD_)|exact HB.out))⟩)
              ·skip
               rintro v291 w18 ⟨hS_,h0_,h1_,h2_⟩
               have n0_:Aside0 (Kd.N k53 53 w18 w.heap.size (fun k_=>(w.heap.size≤k_)∧some k_≠(.slice Ao15 x7_1.length co15:Value).ownBlock) v291 t290):=⟨h0_⟩
               have n1_:Aside0 (Kd.N k53 53 w18 w.heap.size (fun k_=>(w.heap.size≤k_)∧some k_≠(v291:Value).ownBlock) (.slice Ao15 x7_1.length co15) x7_1):=⟨h1_⟩
               have n2_:Aside0 (Below w.heap.size w w18):=⟨h2_⟩
               clear HO_7
               clear HB
               clear h0_ h1_ h2_
               have HO292:=n0_
               have HO_7:=n1_
               have HB:=n2_
               clear n0_ n1_ n2_
               have hHeld:w18.cell? (ad286.add ((x8_1).toNat * 2))=some (.string ((rd_T67 l0 x8_1).f0))∧w18.cell? ⟨(ad286.add ((x8_1).toNat * 2)).block,(ad286.add ((x8_1).toNat * 2)).off+1,none⟩=some (.slice A286_1 ((rd_T67 l0 x8_1).f1).length c286_1)∧w18.cell? (ad286.add ((x8_1).toNat * 2))=some (.string ((rd_T67 l0 x8_1).f0))∧w18.cell? ⟨(ad286.add ((x8_1).toNat * 2)).block,(ad286.add ((x8_1).toNat * 2)).off+1,none⟩=some (.slice A286_1 ((rd_T67 l0 x8_1).f1).length c286_1):=hS_
               refine norm_ (a':=?_) ?_ ?_
               rotate_left
               ·simp only [putAll,Act.put,List.setIfInBounds_toArray,List.set_cons_zero,List.set_cons_succ]
                rfl
               refine one_ (i:=1) (N:=some 25) #[true,true,true,true,true,true,true,true,true,false,false,true,true,true,true,true,true,true,true,true,false,false] rfl rfl (one_of HT_.out (by kernel_rfl)) (by decide) (fun K hK=>?_)
               refine Kd.R_lit_step Kd.string _ 9 ?hg (N:=25) ?hd (xs:=([(⟨#[]⟩:ByteArray),(⟨#[97]⟩:ByteArray),(⟨#[98]⟩:ByteArray),(⟨#[99]⟩:ByteArray),(⟨#[100]⟩:ByteArray)]:List ByteArray)) (inner:=[.string (⟨#[]⟩:ByteArray),.string (⟨#[97]⟩:ByteArray),.string (⟨#[98]⟩:ByteArray),.string (⟨#[99]⟩:ByteArray),.string (⟨#[100]⟩:ByteArray)]) (ok:=fun _=>True) (okp:=fun _=>True) ?hr ?hp (fun _ hk=>hk) trivial (Below.refl _ _) (Nat.le_refl _) (by simp) ?_;(case hd=>rfl);(case hg=>rfl);(case hr=>first|(go_simp;done)|(go_simp;rfl));(case hp=>exact (Reps.one (show Kd.M Kd.string _ _ _ (⟨#[]⟩:ByteArray) [.string (⟨#[]⟩:ByteArray)] from rfl) (Reps.one (show Kd.M Kd.string _ _ _ (⟨#[97]⟩:ByteArray) [.string (⟨#[97]⟩:ByteArray)] from rfl) (Reps.one (show Kd.M Kd.string _ _ _ (⟨#[98]⟩:ByteArray) [.string (⟨#[98]⟩:ByteArray)] from rfl) (Reps.one (show Kd.M Kd.string _ _ _ (⟨#[99]⟩:ByteArray) [.string (⟨#[99]⟩:ByteArray)] from rfl) (Reps.one (show Kd.M Kd.string _ _ _ (⟨#[100]⟩:ByteArray) [.string (⟨#[100]⟩:ByteArray)] from rfl) (Reps.none _ _)))))))
               intro v284 w19 ho20 hb hg_ hnew_
               clear hg_ hnew_
               (first|rw [← Ny283.out] at ho20|(simp only [Int.reduceToNat] at ho20;rw [← Ny283.out] at ho20))
               have n0_:=Aside0.mk (Kd.N_elder' (by (with_reducible repeat (first|apply nA_|apply nN_|apply nD_));exact HO_7.out) (Kd.R_base ho20) hb)
               have n1_:=Aside0.mk (Kd.N_elder' (by (with_reducible repeat (first|apply nA_|apply nN_|apply nD_));exact HO292.out) (Kd.R_base ho20) hb)
               have n2_:=Aside0.mk (Kd.R_lower (Kd.R_newM (M:=fun k_=>(w.heap.size≤k_)) ho20 (below_size (by repeat (first|(with_reducible first|exact HB.out|apply bA_|apply bN_|apply bD_)|exact HB.out))) (fun k_ h_=>h_)) (below_size (by repeat (first|(with_reducible first|exact HB.out|apply bA_|apply bN_|apply bD_)|exact HB.out))))
               have n3_:=Aside0.mk (below_step (by repeat (first|(with_reducible first|exact HB.out|apply bA_|apply bN_|apply bD_)|exact HB.out)) hb)
               clear HO_7
               clear HO292
               clear HB
               have HO_7:=n0_
               have HO292:=n1_
               have HO285:=n2_
               have HB:=n3_
               clear n0_ n1_ n2_ n3_
               clear hb ho20
               obtain ⟨Ao21,co21,eo21⟩:=Kd.R_slice HO285.out
               subst eo21
               obtain ⟨ado21,fo21,_⟩:=Kd.at_string (Kd.R_reads' HO285.out).2.2 0 (by decide) (by rw [Ny283.out];simp)
               cases fo21
               refine hK.out _ _ ⟨((HB.out.cell (World.block_lt_of_cell? w _ hw286_0)).trans hw286_0),((HB.out.cell (World.block_lt_of_cell? w _ hw286_1)).trans hw286_1),((HB.out.cell (World.block_lt_of_cell? w _ hw289_0)).trans hw289_0),((HB.out.cell (World.block_lt_of_cell? w _ hw289_1)).trans hw289_1)⟩ (fun hHeld=>?_)
               clear hK K
               refine norm_ (a':=?_) ?_ ?_
               rotate_left
               ·show Act.put _ (some 25) _=_
                simp only [Act.put,List.setIfInBounds_toArray,List.set_cons_zero,List.set_cons_succ,i64_w,i32_w]
                rfl
               refine pure_ (i:=9) (N:=some 33) (v:=?_) (a':=?_) #[true,true,true,true,true,true,true,true,true,true,false,true,true,true,true,true,true,true,true,true,false,false] rfl rfl (any_of HT_.out (by kernel_rfl)) (fun _ _ _ h=>h) (Or.inl ⟨by rfl,?_⟩) ?_ ?_
               rotate_left
               ·intro w'
                go_simp
                with_reducible rfl
               rotate_left
               ·simp only [Act.put,List.setIfInBounds_toArray,List.set_cons_zero,List.set_cons_succ,i64_w,i32_w]
                rfl
               exact norm_ (by first|(simp only [putAll,Act.put,List.setIfInBounds_toArray,List.set_cons_zero,List.set_cons_succ];done)|(simp only [putAll,Act.put,List.setIfInBounds_toArray,List.set_cons_zero,List.set_cons_succ];rfl)) (hJ1_8_19 (.slice (some ado21) y283.length co21,ado21,v291) _ ⟨hHeld,(by (with_reducible repeat (first|apply rA_|apply rN_|apply rD_));exact Kd.R_mono HO285.out (fun _ hk=>hk.1)),(by (with_reducible repeat (first|apply nA_|apply nN_|apply nD_));exact Kd.N_mono HO292.out (fun _ hk=>⟨hk.1.1,⟨hk.2,hk.1.2⟩⟩)),(by (with_reducible repeat (first|apply nA_|apply nN_|apply nD_));exact Kd.N_mono HO_7.out (fun _ hk=>⟨hk.1.1,⟨hk.2,hk.1.2⟩⟩)),⟨_,rfl⟩,(by repeat (first|(with_reducible first|exact HB.out|apply bA_|apply bN_|apply bD_)|exact HB.out))⟩)
             ·skip
              rintro ⟨v284,adz_v284⟩ w20 ⟨hS_,h0_,h1_,h2_,h3_⟩
              have n0_:Aside0 (Kd.R Kd.string 9 w20 w.heap.size (fun k_=>(w.heap.size≤k_)) v284 y283):=⟨h0_⟩
              have n1_:Aside0 (Kd.N k53 53 w20 w.heap.size (fun k_=>(w.heap.size≤k_)∧some k_≠(v284:Value).ownBlock) (.slice Ao15 x7_1.length co15) x7_1):=⟨h1_⟩
              have n2_:Aside0 (∃ c_,(v284:Value)=.slice (some adz_v284) y283.length c_):=⟨h2_⟩
              have n3_:Aside0 (Below w.heap.size w w20):=⟨h3_⟩
              clear HO_7
              clear HB
              clear h0_ h1_ h2_ h3_
              have HO285:=n0_
              have HO_7:=n1_
              have HA_HO285:=n2_
              have HB:=n3_
              clear n0_ n1_ n2_ n3_
              have hHeld:w20.cell? (ad286.add ((x8_1).toNat * 2))=some (.string ((rd_T67 l0 x8_1).f0))∧w20.cell? ⟨(ad286.add ((x8_1).toNat * 2)).block,(ad286.add ((x8_1).toNat * 2)).off+1,none⟩=some (.slice A286_1 ((rd_T67 l0 x8_1).f1).length c286_1)∧w20.cell? (ad286.add ((x8_1).toNat * 2))=some (.string ((rd_T67 l0 x8_1).f0))∧w20.cell? ⟨(ad286.add ((x8_1).toNat * 2)).block,(ad286.add ((x8_1).toNat * 2)).off+1,none⟩=some (.slice A286_1 ((rd_T67 l0 x8_1).f1).length c286_1):=hS_
              obtain ⟨co21,eo21⟩:=HA_HO285.out
              clear HA_HO285
              subst eo21
              refine norm_ (a':=?_) ?_ ?_
              rotate_left
              ·simp only [putAll,Act.put,List.setIfInBounds_toArray,List.set_cons_zero,List.set_cons_succ]
               rfl
              refine two_ (i:=10) (j:=19) (Ni:=some 34) (Nj:=some 43) #[true,true,true,true,true,true,true,true,true,true,true,true,true,true,true,true,true,true,true,false,false,false] #[true,true,true,true,true,true,true,true,true,true,false,true,true,true,true,true,true,true,true,true,false,false] rfl rfl rfl rfl (two_of HT_.out (by kernel_rfl)) (by decide) (by decide) (fun K hK=>?_) (fun K hK=>?_)
              ·skip
               (have p288:0≤(t287:Int):=of_decide_eq_true (by first|(with_reducible assumption)|assumption);have q288:t287 < (y283.length:Int):=of_decide_eq_true (by first|(with_reducible assumption)|assumption);obtain ⟨ad288,e288,hx288_0⟩:=Kd.at_string (Kd.R_reads' HO285.out).2.2 t287 p288 q288;obtain rfl:adz_v284=ad288:=(by injection e288))
               refine value_ (w1:=?_) (v:=?_) (by rfl) rfl ?_ ?_
               rotate_left 2
               ·go_simp
                constructor
                ·rfl
                ·rfl
               clear hx288_0
               refine hK.out _ _ ⟨((HB.out.cell (World.block_lt_of_cell? w _ hw286_0)).trans hw286_0),((HB.out.cell (World.block_lt_of_cell? w _ hw286_1)).trans hw286_1),((HB.out.cell (World.block_lt_of_cell? w _ hw289_0)).trans hw289_0),((HB.out.cell (World.block_lt_of_cell? w _ hw289_1)).trans hw289_1)⟩ (fun hHeld=>?_)
               clear hK K
               refine norm_ (a':=?_) ?_ ?_
               rotate_left
               ·show Act.put _ (some 34) _=_
                simp only [Act.put,List.setIfInBounds_toArray,List.set_cons_zero,List.set_cons_succ,i64_w,i32_w]
                rfl
               exact norm_ (by first|(simp only [putAll,Act.put,List.setIfInBounds_toArray,List.set_cons_zero,List.set_cons_succ];done)|(simp only [putAll,Act.put,List.setIfInBounds_toArray,List.set_cons_zero,List.set_cons_succ];rfl)) (hJ1_8_10 (.slice (some adz_v284) y283.length co21,adz_v284) _ ⟨hHeld,(by (with_reducible repeat (first|apply rA_|apply rN_|apply rD_));exact HO285.out),(by (with_reducible repeat (first|apply nA_|apply nN_|apply nD_));exact HO_7.out),⟨_,rfl⟩,(by repeat (first|(with_reducible first|exact HB.out|apply bA_|apply bN_|apply bD_)|exact HB.out))⟩)
              ·skip
               refine goes_ Try.func15 (by kernel_rfl) rfl #[.slice A286_1 ((rd_T67 l0 x8_1).f1).length c286_1,.int .i64 a1,.int .i64 (wrap64 (a2 - 1))] (by rfl) rfl rfl (by (try simp only [List.map_toArray,List.map_cons,List.map_nil]);first|done|rfl|(simp only [List.length_drop,List.length_take];rfl)) ?_
               with_reducible refine (ih kj3 (by have:=HK1.out;have:=HJ3.out;omega) _ _ ((rd_T67 l0 x8_1).f1) a1 (wrap64 (a2 - 1)) t290 _ ?side1 ?side2 A13.out).mono ?_
               (case side1=>repeat (first|exact (Kd.C_below HR289_1.out HB.out)|(with_reducible refine cA_ ?_ _)|(with_reducible refine cN_ ?_ _)|(with_reducible refine cD_ ?_)))
               (case side2=>exact HC289_1.out)
               rintro e w22 ⟨v291,rfl,ho0,hb⟩
               refine ⟨_,rfl,?_⟩
               have n0_:=Aside0.mk (Kd.N_elder' (by (with_reducible repeat (first|apply nA_|apply nN_|apply nD_));exact HO_7.out) (Kd.N_base ho0) hb)
               have n1_:=Aside0.mk (Kd.R_below (by (with_reducible repeat (first|apply rA_|apply rN_|apply rD_));exact HO285.out) hb)
               have n2_:=Aside0.mk (Kd.N_lower (Kd.N_mono (ok':=fun k_=>(w.heap.size≤k_)∧some k_≠(.slice Ao15 x7_1.length co15:Value).ownBlock∧some k_≠(.slice (some adz_v284) y283.length co21:Value).ownBlock) ho0 (fun k_ hk_=>⟨(Nat.le_trans (below_size (by repeat (first|(with_reducible first|exact HB.out|apply bA_|apply bN_|apply bD_)|exact HB.out))) hk_),(Kd.fresh' (Kd.N_lt (by (with_reducible repeat (first|apply nA_|apply nN_|apply nD_));exact HO_7.out)) k_ hk_),(Kd.fresh' (Kd.R_lt (by (with_reducible repeat (first|apply rA_|apply rN_|apply rD_));exact HO285.out)) k_ hk_)⟩)) (below_size (by repeat (first|(with_reducible first|exact HB.out|apply bA_|apply bN_|apply bD_)|exact HB.out))))
               have n3_:=Aside0.mk (below_step (by repeat (first|(with_reducible first|exact HB.out|apply bA_|apply bN_|apply bD_)|exact HB.out)) hb)
               clear HO_7
               clear HO285
               clear HB
               have HO_7:=n0_
               have HO285:=n1_
               have HO292:=n2_
               have HB:=n3_
               clear n0_ n1_ n2_ n3_
               (try clear hb)
               (try clear hb2)
               (try clear hk)
               (try clear hi)
               (try clear ho0)
               refine hK.out _ _ ⟨((HB.out.cell (World.block_lt_of_cell? w _ hw286_0)).trans hw286_0),((HB.out.cell (World.block_lt_of_cell? w _ hw286_1)).trans hw286_1),((HB.out.cell (World.block_lt_of_cell? w _ hw289_0)).trans hw289_0),((HB.out.cell (World.block_lt_of_cell? w _ hw289_1)).trans hw289_1)⟩ (fun hHeld=>?_)
               clear hK K
               refine norm_ (a':=?_) ?_ ?_
               rotate_left
               ·show Act.put _ (some 43) _=_
                simp only [Act.put,List.setIfInBounds_toArray,List.set_cons_zero,List.set_cons_succ,i64_w,i32_w]
                rfl
               exact norm_ (by first|(simp only [putAll,Act.put,List.setIfInBounds_toArray,List.set_cons_zero,List.set_cons_succ];done)|(simp only [putAll,Act.put,List.setIfInBounds_toArray,List.set_cons_zero,List.set_cons_succ];rfl)) (hJ1_8_19 (.slice (some adz_v284) y283.length co21,adz_v284,v291) _ ⟨hHeld,(by (with_reducible repeat (first|apply rA_|apply rN_|apply rD_));exact HO285.out),(by (with_reducible repeat (first|apply nA_|apply nN_|apply nD_));exact Kd.N_mono HO292.out (fun _ hk=>⟨hk.1,⟨hk.2.2,hk.2.1⟩⟩)),(by (with_reducible repeat (first|apply nA_|apply nN_|apply nD_));exact Kd.N_mono HO_7.out (fun _ hk=>⟨hk.1.1,⟨hk.1.2,hk.2⟩⟩)),⟨_,rfl⟩,(by repeat (first|(with_reducible first|exact HB.out|apply bA_|apply bN_|apply bD_)|exact HB.out))⟩)
            ·skip
             rintro ⟨v284,adz_v284,v291⟩ w21 ⟨hS_,h0_,h1_,h2_,h3_,h4_⟩
             have n0_:Aside0 (Kd.R Kd.string 9 w21 w.heap.size (fun k_=>(w.heap.size≤k_)) v284 y283):=⟨h0_⟩
             have n1_:Aside0 (Kd.N k53 53 w21 w.heap.size (fun k_=>(w.heap.size≤k_)∧some k_≠(v284:Value).ownBlock∧some k_≠(.slice Ao15 x7_1.length co15:Value).ownBlock) v291 t290):=⟨h1_⟩
             have n2_:Aside0 (Kd.N k53 53 w21 w.heap.size (fun k_=>(w.heap.size≤k_)∧some k_≠(v284:Value).ownBlock∧some k_≠(v291:Value).ownBlock) (.slice Ao15 x7_1.length co15) x7_1):=⟨h2_⟩
             have n3_:Aside0 (∃ c_,(v284:Value)=.slice (some adz_v284) y283.length c_):=⟨h3_⟩
             have n4_:Aside0 (Below w.heap.size w w21):=⟨h4_⟩
             clear HO_7
             clear HB
             clear h0_ h1_ h2_ h3_ h4_
             have HO285:=n0_
             have HO292:=n1_
             have HO_7:=n2_
             have HA_HO285:=n3_
             have HB:=n4_
             clear n0_ n1_ n2_ n3_ n4_
             have hHeld:w21.cell? (ad286.add ((x8_1).toNat * 2))=some (.string ((rd_T67 l0 x8_1).f0))∧w21.cell? ⟨(ad286.add ((x8_1).toNat * 2)).block,(ad286.add ((x8_1).toNat * 2)).off+1,none⟩=some (.slice A286_1 ((rd_T67 l0 x8_1).f1).length c286_1)∧w21.cell? (ad286.add ((x8_1).toNat * 2))=some (.string ((rd_T67 l0 x8_1).f0))∧w21.cell? ⟨(ad286.add ((x8_1).toNat * 2)).block,(ad286.add ((x8_1).toNat * 2)).off+1,none⟩=some (.slice A286_1 ((rd_T67 l0 x8_1).f1).length c286_1):=hS_
             obtain ⟨co22,eo22⟩:=HA_HO285.out
             clear HA_HO285
             subst eo22
             refine norm_ (a':=?_) ?_ ?_
             rotate_left
             ·simp only [putAll,Act.put,List.setIfInBounds_toArray,List.set_cons_zero,List.set_cons_succ]
              rfl
             refine one_ (i:=10) (N:=some 34) #[true,true,true,true,true,true,true,true,true,true,true,true,true,true,true,true,true,true,true,true,false,false] rfl rfl (one_of HT_.out (by kernel_rfl)) (by decide) (fun K hK=>?_)
             (have p288:0≤(t287:Int):=of_decide_eq_true (by first|(with_reducible assumption)|assumption);have q288:t287 < (y283.length:Int):=of_decide_eq_true (by first|(with_reducible assumption)|assumption);obtain ⟨ad288,e288,hx288_0⟩:=Kd.at_string (Kd.R_reads' HO285.out).2.2 t287 p288 q288;obtain rfl:adz_v284=ad288:=(by injection e288))
             refine value_ (w1:=?_) (v:=?_) (by rfl) rfl ?_ ?_
             rotate_left 2
             ·go_simp
              constructor
              ·rfl
              ·rfl
             clear hx288_0
             refine hK.out _ _ ⟨((HB.out.cell (World.block_lt_of_cell? w _ hw286_0)).trans hw286_0),((HB.out.cell (World.block_lt_of_cell? w _ hw286_1)).trans hw286_1),((HB.out.cell (World.block_lt_of_cell? w _ hw289_0)).trans hw289_0),((HB.out.cell (World.block_lt_of_cell? w _ hw289_1)).trans hw289_1)⟩ (fun hHeld=>?_)
             clear hK K
             refine norm_ (a':=?_) ?_ ?_
             rotate_left
             ·show Act.put _ (some 34) _=_
              simp only [Act.put,List.setIfInBounds_toArray,List.set_cons_zero,List.set_cons_succ,i64_w,i32_w]
              rfl
             exact norm_ (by first|(simp only [putAll,Act.put,List.setIfInBounds_toArray,List.set_cons_zero,List.set_cons_succ];done)|(simp only [putAll,Act.put,List.setIfInBounds_toArray,List.set_cons_zero,List.set_cons_succ];rfl)) (hJ1_8_10_19 (.slice (some adz_v284) y283.length co22,adz_v284,v291) _ ⟨hHeld,(by (with_reducible repeat (first|apply rA_|apply rN_|apply rD_));exact HO285.out),(by (with_reducible repeat (first|apply nA_|apply nN_|apply nD_));exact HO292.out),(by (with_reducible repeat (first|apply nA_|apply nN_|apply nD_));exact HO_7.out),⟨_,rfl⟩,(by repeat (first|(with_reducible first|exact HB.out|apply bA_|apply bN_|apply bD_)|exact HB.out))⟩)
           ·skip
            rintro ⟨v284,adz_v284⟩ w20 ⟨hS_,h0_,h1_,h2_,h3_⟩
            have n0_:Aside0 (Kd.R Kd.string 9 w20 w.heap.size (fun k_=>(w.heap.size≤k_)) v284 y283):=⟨h0_⟩
            have n1_:Aside0 (Kd.N k53 53 w20 w.heap.size (fun k_=>(w.heap.size≤k_)∧some k_≠(v284:Value).ownBlock) (.slice Ao15 x7_1.length co15) x7_1):=⟨h1_⟩
            have n2_:Aside0 (∃ c_,(v284:Value)=.slice (some adz_v284) y283.length c_):=⟨h2_⟩
            have n3_:Aside0 (Below w.heap.size w w20):=⟨h3_⟩
            clear HO_7
            clear HB
            clear h0_ h1_ h2_ h3_
            have HO285:=n0_
            have HO_7:=n1_
            have HA_HO285:=n2_
            have HB:=n3_
            clear n0_ n1_ n2_ n3_
            have hHeld:w20.cell? (ad286.add ((x8_1).toNat * 2))=some (.string ((rd_T67 l0 x8_1).f0))∧w20.cell? ⟨(ad286.add ((x8_1).toNat * 2)).block,(ad286.add ((x8_1).toNat * 2)).off+1,none⟩=some (.slice A286_1 ((rd_T67 l0 x8_1).f1).length c286_1)∧w20.cell? (ad286.add ((x8_1).toNat * 2))=some (.string ((rd_T67 l0 x8_1).f0))∧w20.cell? ⟨(ad286.add ((x8_1).toNat * 2)).block,(ad286.add ((x8_1).toNat * 2)).off+1,none⟩=some (.slice A286_1 ((rd_T67 l0 x8_1).f1).length c286_1):=hS_
            obtain ⟨co21,eo21⟩:=HA_HO285.out
            clear HA_HO285
            subst eo21
            refine norm_ (a':=?_) ?_ ?_
            rotate_left
            ·simp only [putAll,Act.put,List.setIfInBounds_toArray,List.set_cons_zero,List.set_cons_succ]
             rfl
            refine one_ (i:=19) (N:=some 43) #[true,true,true,true,true,true,true,true,true,true,true,true,true,true,true,true,true,true,true,true,false,false] rfl rfl (one_of HT_.out (by kernel_rfl)) (by decide) (fun K hK=>?_)
            refine goes_ Try.func15 (by kernel_rfl) rfl #[.slice A286_1 ((rd_T67 l0 x8_1).f1).length c286_1,.int .i64 a1,.int .i64 (wrap64 (a2 - 1))] (by rfl) rfl rfl (by (try simp only [List.map_toArray,List.map_cons,List.map_nil]);first|done|rfl|(simp only [List.length_drop,List.length_take];rfl)) ?_
            with_reducible refine (ih kj3 (by have:=HK1.out;have:=HJ3.out;omega) _ _ ((rd_T67 l0 x8_1).f1) a1 (wrap64 (a2 - 1)) t290 _ ?side1 ?side2 A13.out).mono ?_
            (case side1=>repeat (first|exact (Kd.C_below HR289_1.out HB.out)|(with_reducible refine cA_ ?_ _)|(with_reducible refine cN_ ?_ _)|(with_reducible refine cD_ ?_)))
            (case side2=>exact HC289_1.out)
            rintro e w22 ⟨v291,rfl,ho0,hb⟩
            refine ⟨_,rfl,?_⟩
            have n0_:=Aside0.mk (Kd.N_elder' (by (with_reducible repeat (first|apply nA_|apply nN_|apply nD_));exact HO_7.out) (Kd.N_base ho0) hb)
            have n1_:=Aside0.mk (Kd.R_below (by (with_reducible repeat (first|apply rA_|apply rN_|apply rD_));exact HO285.out) hb)
            have n2_:=Aside0.mk (Kd.N_lower (Kd.N_mono (ok':=fun k_=>(w.heap.size≤k_)∧some k_≠(.slice Ao15 x7_1.length co15:Value).ownBlock∧some k_≠(.slice (some adz_v284) y283.length co21:Value).ownBlock) ho0 (fun k_ hk_=>⟨(Nat.le_trans (below_size (by repeat (first|(with_reducible first|exact HB.out|apply bA_|apply bN_|apply bD_)|exact HB.out))) hk_),(Kd.fresh' (Kd.N_lt (by (with_reducible repeat (first|apply nA_|apply nN_|apply nD_));exact HO_7.out)) k_ hk_),(Kd.fresh' (Kd.R_lt (by (with_reducible repeat (first|apply rA_|apply rN_|apply rD_));exact HO285.out)) k_ hk_)⟩)) (below_size (by repeat (first|(with_reducible first|exact HB.out|apply bA_|apply bN_|apply bD_)|exact HB.out))))
            have n3_:=Aside0.mk (below_step (by repeat (first|(with_reducible first|exact HB.out|apply bA_|apply bN_|apply bD_)|exact HB.out)) hb)
            clear HO_7
            clear HO285
            clear HB
            have HO_7:=n0_
            have HO285:=n1_
            have HO292:=n2_
            have HB:=n3_
            clear n0_ n1_ n2_ n3_
            (try clear hb)
            (try clear hb2)
            (try clear hk)
            (try clear hi)
            (try clear ho0)
            refine hK.out _ _ ⟨((HB.out.cell (World.block_lt_of_cell? w _ hw286_0)).trans hw286_0),((HB.out.cell (World.block_lt_of_cell? w _ hw286_1)).trans hw286_1),((HB.out.cell (World.block_lt_of_cell? w _ hw289_0)).trans hw289_0),((HB.out.cell (World.block_lt_of_cell? w _ hw289_1)).trans hw289_1)⟩ (fun hHeld=>?_)
            clear hK K
            refine norm_ (a':=?_) ?_ ?_
            rotate_left
            ·show Act.put _ (some 43) _=_
             simp only [Act.put,List.setIfInBounds_toArray,List.set_cons_zero,List.set_cons_succ,i64_w,i32_w]
             rfl
            exact norm_ (by first|(simp only [putAll,Act.put,List.setIfInBounds_toArray,List.set_cons_zero,List.set_cons_succ];done)|(simp only [putAll,Act.put,List.setIfInBounds_toArray,List.set_cons_zero,List.set_cons_succ];rfl)) (hJ1_8_10_19 (.slice (some adz_v284) y283.length co21,adz_v284,v291) _ ⟨hHeld,(by (with_reducible repeat (first|apply rA_|apply rN_|apply rD_));exact HO285.out),(by (with_reducible repeat (first|apply nA_|apply nN_|apply nD_));exact Kd.N_mono HO292.out (fun _ hk=>⟨hk.1,⟨hk.2.2,hk.2.1⟩⟩)),(by (with_reducible repeat (first|apply nA_|apply nN_|apply nD_));exact Kd.N_mono HO_7.out (fun _ hk=>⟨hk.1.1,⟨hk.1.2,hk.2⟩⟩)),⟨_,rfl⟩,(by repeat (first|(with_reducible first|exact HB.out|apply bA_|apply bN_|apply bD_)|exact HB.out))⟩)
          rintro ⟨v284,adz_v284,v291⟩ w21 ⟨hS_,h0_,h1_,h2_,h3_,h4_⟩
          have n0_:Aside0 (Kd.R Kd.string 9 w21 w.heap.size (fun k_=>(w.heap.size≤k_)) v284 y283):=⟨h0_⟩
          have n1_:Aside0 (Kd.N k53 53 w21 w.heap.size (fun k_=>(w.heap.size≤k_)∧some k_≠(v284:Value).ownBlock∧some k_≠(.slice Ao15 x7_1.length co15:Value).ownBlock) v291 t290):=⟨h1_⟩
          have n2_:Aside0 (Kd.N k53 53 w21 w.heap.size (fun k_=>(w.heap.size≤k_)∧some k_≠(v284:Value).ownBlock∧some k_≠(v291:Value).ownBlock) (.slice Ao15 x7_1.length co15) x7_1):=⟨h2_⟩
          have n3_:Aside0 (∃ c_,(v284:Value)=.slice (some adz_v284) y283.length c_):=⟨h3_⟩
          have n4_:Aside0 (Below w.heap.size w w21):=⟨h4_⟩
          clear HO_7
          clear HB
          clear h0_ h1_ h2_ h3_ h4_
          have HO285:=n0_
          have HO292:=n1_
          have HO_7:=n2_
          have HA_HO285:=n3_
          have HB:=n4_
          clear n0_ n1_ n2_ n3_ n4_
          have hHeld:w21.cell? (ad286.add ((x8_1).toNat * 2))=some (.string ((rd_T67 l0 x8_1).f0))∧w21.cell? ⟨(ad286.add ((x8_1).toNat * 2)).block,(ad286.add ((x8_1).toNat * 2)).off+1,none⟩=some (.slice A286_1 ((rd_T67 l0 x8_1).f1).length c286_1)∧w21.cell? (ad286.add ((x8_1).toNat * 2))=some (.string ((rd_T67 l0 x8_1).f0))∧w21.cell? ⟨(ad286.add ((x8_1).toNat * 2)).block,(ad286.add ((x8_1).toNat * 2)).off+1,none⟩=some (.slice A286_1 ((rd_T67 l0 x8_1).f1).length c286_1):=hS_
          obtain ⟨co22,eo22⟩:=HA_HO285.out
          clear HA_HO285
          subst eo22
          obtain ⟨Ao23,co23,eo23⟩:=Kd.N_slice HO292.out
          (first|subst eo23|(injection eo23 with f1_ f2_ f3_;have f4_:=f1_.symm;have f5_:=f3_.symm;clear f1_ f2_ f3_;subst f4_;subst f5_))
          refine norm_ (a':=?_) ?_ ?_
          rotate_left
          ·simp only [putAll,Act.put,List.setIfInBounds_toArray,List.set_cons_zero,List.set_cons_succ]
           rfl
          refine one_ (i:=20) (N:=some 44) #[true,true,true,true,true,true,true,true,true,true,true,true,true,true,true,true,true,true,true,true,true,false] rfl rfl (one_of HT_.out (by kernel_rfl)) (by decide) (fun K hK=>?_)
          refine goes_ Try.func31 (by kernel_rfl) rfl #[.slice Ao15 x7_1.length co15,.string (rdOf ByteArray.empty y283 t287),.slice Ao23 t290.length co23] (by rfl) rfl rfl (by (try simp only [List.map_toArray,List.map_cons,List.map_nil]);first|done|rfl|(simp only [List.length_drop,List.length_take];rfl)) ?_
          with_reducible refine (cadenceref2_With.calls kj3 (fun k_=>((w.heap.size≤k_)∧(some k_≠(.slice (some adz_v284) y283.length co22:Value).ownBlock∧some k_≠(.slice Ao23 t290.length co23:Value).ownBlock))) _ _ x7_1 (rdOf ByteArray.empty y283 t287) (fun k_=>((w.heap.size≤k_)∧(some k_≠(.slice (some adz_v284) y283.length co22:Value).ownBlock∧some k_≠(.slice Ao15 x7_1.length co15:Value).ownBlock))) _ _ t290 t293 _ ?side1 ?side2 A14.out).mono ?_
          (case side1=>exact Kd.N_V (HO_7.out))
          (case side2=>exact Kd.N_V (HO292.out))
          rintro e w24 ⟨v294,rfl,ho0,hb⟩
          refine ⟨_,rfl,?_⟩
          have n0_:=Aside0.mk (Kd.N_elder' (by (with_reducible repeat (first|apply nA_|apply nN_|apply nD_));exact HO_7.out) (Kd.N_base ho0) hb)
          have n1_:=Aside0.mk (Kd.R_below (by (with_reducible repeat (first|apply rA_|apply rN_|apply rD_));exact HO285.out) hb)
          have n2_:=Aside0.mk (Kd.N_elder' (by (with_reducible repeat (first|apply nA_|apply nN_|apply nD_));exact HO292.out) (Kd.N_base ho0) hb)
          have n3_:=Aside0.mk (Kd.N_lower (Kd.N_mono (ok':=fun k_=>(w.heap.size≤k_)∧some k_≠(.slice (some adz_v284) y283.length co22:Value).ownBlock) ho0 (fun k_ hk_=>⟨Or.elim hk_ (fun hs_=>Or.elim hs_ (fun hs_=>hs_.1) (fun hs_=>hs_.1)) (fun hn_=>(Nat.le_trans (below_size (by repeat (first|(with_reducible first|exact HB.out|apply bA_|apply bN_|apply bD_)|exact HB.out))) hn_)),Or.elim hk_ (fun hs_=>Or.elim hs_ (fun hs_=>hs_.2.1) (fun hs_=>hs_.2.1)) (fun hn_=>(Kd.fresh' (Kd.R_lt (by (with_reducible repeat (first|apply rA_|apply rN_|apply rD_));exact HO285.out)) k_ hn_))⟩)) (below_size (by repeat (first|(with_reducible first|exact HB.out|apply bA_|apply bN_|apply bD_)|exact HB.out))))
          have n4_:=Aside0.mk (below_step (by repeat (first|(with_reducible first|exact HB.out|apply bA_|apply bN_|apply bD_)|exact HB.out)) hb)
          clear HO_7
          clear HO285
          clear HO292
          clear HB
          have HO_7:=n0_
          have HO285:=n1_
          have HO292:=n2_
          have HO295:=n3_
          have HB:=n4_
          clear n0_ n1_ n2_ n3_ n4_
          (try clear hb)
          (try clear hb2)
          (try clear hk)
          (try clear hi)
          (try clear ho0)
          refine hK.out _ _ ⟨((HB.out.cell (World.block_lt_of_cell? w _ hw286_0)).trans hw286_0),((HB.out.cell (World.block_lt_of_cell? w _ hw286_1)).trans hw286_1),((HB.out.cell (World.block_lt_of_cell? w _ hw289_0)).trans hw289_0),((HB.out.cell (World.block_lt_of_cell? w _ hw289_1)).trans hw289_1)⟩ (fun hHeld=>?_)
          clear hK K
          refine norm_ (a':=?_) ?_ ?_
          rotate_left
          ·show Act.put _ (some 44) _=_
           simp only [Act.put,List.setIfInBounds_toArray,List.set_cons_zero,List.set_cons_succ,i64_w,i32_w]
           rfl
          refine pure_ (i:=21) (N:=some 7) (v:=?_) (a':=?_) #[true,true,true,true,true,true,true,true,true,true,true,true,true,true,true,true,true,true,true,true,true,true] rfl rfl (any_of HT_.out (by kernel_rfl)) (fun _ _ _ h=>h) (Or.inl ⟨by rfl,?_⟩) ?_ ?_
          rotate_left
          ·intro w'
           go_simp
           with_reducible rfl
          rotate_left
          ·simp only [Act.put,List.setIfInBounds_toArray,List.set_cons_zero,List.set_cons_succ,i64_w,i32_w]
           rfl
          refine done_ (done_of HT_.out (by kernel_rfl)) ?_
          try go_wp2
          go_roundg kj3
          case measure=>have:=HK1.out;have:=HJ3.out;omega
          case rel=>exact ⟨(t293),(wrap64 (x8_1+1)),(by first|rfl|(simp;done)|(simp [*];done)),H',⟨by have:=HK1.out;have:=HJ3.out;omega⟩,⟨by (with_reducible repeat (first|apply nA_|apply nN_|apply nD_));exact Kd.N_mono HO295.out (fun _ hk=>hk.1)⟩,⟨by repeat (first|(with_reducible first|exact HB.out|apply bA_|apply bN_|apply bD_)|exact HB.out)⟩⟩
         ·rw [if_neg c12] at H
          exact absurd H (by simp)
        ·rw [if_neg c11] at H
         exact absurd H (by simp)
       ·rw [if_neg c9] at H
        exact absurd H (by simp)
      ·rw [if_neg c8] at H
       exact absurd H (by simp)
     ·replace c7:=Bool.eq_false_iff.mpr c7
      subst c7
      have H1:(some x7_1)=some r:=by rw [if_neg (show ¬ (false=true) by decide)] at H;exact H
      clear H
      have H:=H1
      clear H1
      obtain rfl:=Option.some.inj H
      go_wp2
      go_ret
      exact ⟨_,by first|rfl|(simp [errW_none,errW_some] <;> rfl)|(simp [*,errW_none,errW_some] <;> rfl),by (with_reducible repeat (first|apply nA_|apply nN_|apply nD_));exact HO_7.out,by repeat (first|(with_reducible first|exact HB.out|apply bA_|apply bN_|apply bD_)|exact HB.out)⟩
end Go.Proofs.Ytoihiehoolehiaa.PX
set_option linter.unusedVariables false
namespace Go.Proofs.Ytoihiehoolehiaa.PX
open Go.RowKit Go.Proofs.YtoihiehoolehiaaW.PrintWords Go.Proofs.YtoihiehoolehiaaW.PrintLast Go.Proofs.YtoihiehoolehiaaW.PrintMore Go.Proofs.Ytoihiehoolehiaa
theorem within4 (a:Int) {n:Int} (h0:0 < n) (h1:n≤1000000):∃ r,0≤r∧r < n∧cadencelaw4_within.f a n=some r:=by
 obtain ⟨r,r0,r1,h⟩:=tmod_in a h0 h1
 refine ⟨r,r0,r1,?_⟩
 unfold cadencelaw4_within.f
 rw [if_neg (by omega),← h]
 split <;> rfl
def five:List ByteArray:=[(⟨#[]⟩:ByteArray),(⟨#[97]⟩:ByteArray),(⟨#[98]⟩:ByteArray),(⟨#[99]⟩:ByteArray),(⟨#[100]⟩:ByteArray)]
theorem small_ev {l:List Raw} (h:RawOk l):∀ (w D:Nat),w≤100→D≤100→∃ t,Ok w D t∧Ev (fun k=>cadencelaw4_Small.f k l (w:Int) (D:Int)) t:=by
 induction h with
 | mk l hl hk ih =>
  intro w D hw hD
  have stop:∀ (t:Tr) (i:Nat),(i < l.length→i < w→D=0)→Ev (fun k=>cadencelaw4_Small.l0 k l (w:Int) (D:Int) t (i:Int)) t:=by
   intro t i hi
   have h1:Ev (fun k=>cadencelaw4_Small.j1 k l (w:Int) (D:Int) t (i:Int) false) t:=by
    refine Ev.step (f:=fun _=>some t) (fun k=>?_) (Ev.now _)
    simp only [cadencelaw4_Small.j1]
    rw [if_neg Bool.false_ne_true]
   refine Ev.step (f:=fun k=>cadencelaw4_Small.j1 k l (w:Int) (D:Int) t (i:Int) false) (fun k=>?_) h1
   simp only [cadencelaw4_Small.l0]
   by_cases c1:(i:Int) < (l.length:Int)
   ·rw [if_pos c1]
    by_cases c2:(i:Int) < (w:Int)
    ·rw [if_pos c2,decide_eq_false (by have:=hi (by omega) (by omega);omega)]
    ·rw [if_neg c2]
   ·rw [if_neg c1]
  have loop:∀ (m i:Nat) (t:Tr),i+m=l.length→i≤w→t.length≤i→Ok w D t→∃ r,Ok w D r∧Ev (fun k=>cadencelaw4_Small.l0 k l (w:Int) (D:Int) t (i:Int)) r:=by
   intro m
   induction m with
   | zero=>intro i t hi _ _ ht;exact ⟨t,ht,stop t i (by omega)⟩
   | succ m ihm =>
    intro i t hi hiw htl ht
    by_cases hc:i < w∧0 < D
    ·obtain ⟨d,rfl⟩:∃ d,D=d+1:=⟨D - 1,by omega⟩
     have hil:i < l.length:=by omega
     obtain ⟨x,hx,hxe⟩:=ih l[i] (List.getElem_mem hil) w d hw (by omega)
     obtain ⟨r,r0,r1,hr⟩:=within4 (l[i].f0.size:Int) (n:=5) (by omega) (by omega)
     obtain ⟨q,hq,hqe⟩:=ihm (i+1) (withT t (five[r.toNat]'(by simp [five];omega)) x) (by omega) (by omega) (by have:=withT_length t (five[r.toNat]'(by simp [five];omega)) x;omega) (ht.withT hx (by have:=withT_length t (five[r.toNat]'(by simp [five];omega)) x;omega))
     refine ⟨q,hq,?_⟩
     have h1:Ev (fun k=>cadencelaw4_Small.j1 k l (w:Int) ((d+1:Nat):Int) t (i:Int) true) q:=by
      refine Ev.step (f:=fun k=>(cadencelaw4_Small.f k l[i].f1 (w:Int) (d:Int)).bind fun u=>(cadenceref2_With.f k t (five[r.toNat]'(by simp [five];omega)) u).bind fun v=>cadencelaw4_Small.l0 k l (w:Int) ((d+1:Nat):Int) v ((i+1:Nat):Int)) (fun k=>?_) (Ev.bind hxe (Ev.bind (with_ev t _ x (by omega)) hqe))
      simp only [cadencelaw4_Small.j1]
      rw [if_pos trivial,Option.bind_some,if_pos (by omega),if_pos (by omega),rdRaw_nat hil,hr,Option.bind_some,if_pos r0,if_pos (by simp;omega),wrap_succ (by omega),show wrap64 (((d+1:Nat):Int) - 1)=(d:Int) by rw [wrap_id (by omega) (by omega)];omega]
      have hn:rdOf ByteArray.empty five r=five[r.toNat]'(by simp [five];omega):=by
       have:=rdOf_nat (xs:=five) (i:=r.toNat) (by simp [five];omega)
       rwa [Int.toNat_of_nonneg r0] at this
      rw [← hn]
      rfl
     refine Ev.step (f:=fun k=>cadencelaw4_Small.j1 k l (w:Int) ((d+1:Nat):Int) t (i:Int) true) (fun k=>?_) h1
     simp only [cadencelaw4_Small.l0]
     rw [if_pos (by omega),if_pos (by omega),decide_eq_true (by omega)]
    ·exact ⟨t,ht,stop t i (by omega)⟩
  obtain ⟨r,hr,he⟩:=loop l.length 0 [] (by omega) (by omega) (by simp) (Ok.nil _ _)
  exact ⟨r,hr,Ev.step (fun k=>by simp only [cadencelaw4_Small.f];rfl) he⟩
end Go.Proofs.Ytoihiehoolehiaa.PX
set_option linter.unusedVariables false
set_option linter.unusedSimpArgs false
namespace Go.Proofs.Ytoihiehoolehiaa.PX
open Go.RowKit Go.Proofs.YtoihiehoolehiaaW.PrintWords Go.Proofs.YtoihiehoolehiaaW.PrintLast Go.Proofs.YtoihiehoolehiaaW.PrintMore Go.ChangeShapes Go.WideShapes Go.ChangeAt Go.Deep
section
variable {H:Type} {enc:TypeId × Value→H} {w:World}
theorem open_strsC {fuel:Nat} {cs:List Value} {x:DataW H × List MemPlace} (h:DataW.trod enc Try.prog w 0 (fun _=>true) true fuel 36 cs=some x)
  (hw:∀ n ∈ x.1.weights Try.prog 36,n≤reachBytes) :
  ∃ (A:Option Addr) (cap:Nat) (l:List ByteArray),cs = [.slice A l.length cap]∧l.length≤cap∧Kd.C Kd.string w A l.length l∧l.length≤8796093022207:=by
 have bS:Try.prog.bytesOf 9=16:=by kernel_rfl
 rcases open_strings Try.underlying36 Try.underlying9 (by kernel_rfl) h with ⟨hcs,_⟩|⟨a,len,cap,ss,hcs,_,hl,hm,hz,hx,hcell,_⟩
 ·exact ⟨none,0,[],hcs,Nat.le_refl _,Kd.C_nil _ _,by simp⟩
 ·simp only [if_true] at hz
  have hx1:x.1=.slice (strs (ss.take len)) (strs (ss.drop len)):=congrArg Prod.fst hx
  rw [hx1] at hw
  have hb:len * 16≤reachBytes:=by
   have:=hw _ (by rw [DataW.weights,Try.underlying36];simp only [bS];exact List.mem_cons_self)
   simp only [strs,List.length_map,List.length_take,List.length_drop] at this
   omega
  have htl:(ss.take len).length=len:=by rw [List.length_take];omega
  refine ⟨some a,cap,ss.take len,by rw [htl];exact hcs,by rw [htl];exact hl,Kd.C_of_reads (d:=ByteArray.empty) (h1:=fun _=>rfl) ⟨rfl,by rw [htl];unfold maxLen at hm;omega,fun hp=>⟨a,rfl,fun j hj=>?_⟩⟩,by rw [htl];unfold reachBytes at hb;omega⟩
  rw [htl] at hj
  rw [hcell j (by omega)]
  simp [List.getD_eq_getElem?_getD,List.getElem?_take,hj]
end
end Go.Proofs.Ytoihiehoolehiaa.PX
set_option linter.unusedVariables false
set_option linter.unusedSimpArgs false
set_option maxRecDepth 100000
namespace Go.Proofs.Ytoihiehoolehiaa.PX
open Go.RowKit Go.Proofs.YtoihiehoolehiaaW.PrintWords Go.Proofs.YtoihiehoolehiaaW.PrintLast Go.Proofs.YtoihiehoolehiaaW.PrintMore Go.ChangeShapes Go.WideShapes Go.ChangeAt Go.Deep
section
variable {H:Type} {enc:TypeId × Value→H} {w:World}
theorem open_namesC {fuel:Nat} {cs:List Value} {x:DataW H × List MemPlace} (h:DataW.trod enc Try.prog w 0 (fun _=>true) true fuel 38 cs=some x)
  (hw:∀ n ∈ x.1.weights Try.prog 38,n≤reachBytes) :
  ∃ (b:Bool) (A:Option Addr) (cap:Nat) (l:List ByteArray),cs = [.bool b,.slice A l.length cap]∧l.length≤cap∧Kd.C Kd.string w A l.length l∧l.length≤8796093022207:=by
 obtain ⟨y0,y1,n,hx,hl,h0,h1⟩:=trod_struct2 Try.underlying38 h
 have h2:Try.prog.cellsOf 38=2:=by kernel_rfl
 have e1:Try.prog.cellsOf 4=1:=by kernel_rfl
 have e2:Try.prog.cellsOf 36=1:=by kernel_rfl
 rw [h2] at hl
 have hx1:x.1=.agg [y0.1,y1.1]:=congrArg Prod.fst hx
 match cs,hl with
 | [u0,u1],_ =>
  simp only [e1,e2,List.drop_zero,List.drop_succ_cons,List.take_succ_cons,List.take_zero] at h0 h1
  obtain ⟨b,hb,_⟩:=DataW.trod_bool Try.underlying4 h0
  obtain ⟨A,cap,l,hc,h4,h5,h6⟩:=open_strsC h1 (fun q hq=>hw q (by
   rw [hx1,DataW.weights,Try.underlying38]
   simp only [List.map_cons,List.map_nil,DataW.weightsEach]
   exact List.mem_append_right _ (List.mem_append_left _ hq)))
  simp only [List.cons.injEq,and_true] at hb hc
  subst hb hc
  exact ⟨b,A,cap,l,rfl,h4,h5,h6⟩
end
end Go.Proofs.Ytoihiehoolehiaa.PX
set_option linter.unusedVariables false
set_option linter.unusedSimpArgs false
set_option maxRecDepth 100000
namespace Go.Proofs.Ytoihiehoolehiaa.PX
open Go.RowKit Go.Proofs.YtoihiehoolehiaaW.PrintWords Go.Proofs.YtoihiehoolehiaaW.PrintLast Go.Proofs.YtoihiehoolehiaaW.PrintMore Go.ChangeShapes Go.WideShapes Go.ChangeAt Go.Deep
section
variable {H:Type} {enc:TypeId × Value→H} {w:World}
theorem cells_of {a:Addr} {n:Nat} {cs:List Value} (h:w.cells? 0 a n=some cs):cs.length=n∧∀ i u,cs[i]? = some u→w.cell? (a.add i)=some u:=by
 obtain ⟨_,h1,h2⟩:=World.cells?_some h
 exact ⟨h1,fun i u hu=>(h2 i (by rw [← h1];exact (List.getElem?_eq_some_iff.1 hu).1)).trans hu⟩
theorem add_add2 (a:Addr) (i j:Nat):(a.add i).add j=a.add (i+j):=by
 unfold Addr.add
 by_cases hi:i=0 <;> by_cases hj:j=0 <;> simp [hi,hj,Nat.add_assoc]
theorem open_rowsC {α:Type} [Inhabited α] (K:Kd α) {T TS:TypeId} {b:Nat} (P:α→Prop) (uT:Try.prog.underlying TS=some (.slice T)) (cT:Try.prog.cellsOf T=K.sz) (bT:Try.prog.bytesOf T=b)
  (el:∀ (fuel:Nat) (cs:List Value) (x:DataW H × List MemPlace),DataW.trod enc Try.prog w 0 (fun _=>true) true fuel T cs=some x→(∀ n ∈ x.1.weights Try.prog T,n≤reachBytes)→∃ q,K.K w q cs∧P q)
  {fuel:Nat} {cs:List Value} {x:DataW H × List MemPlace} (h:DataW.trod enc Try.prog w 0 (fun _=>true) true fuel TS cs=some x) (hw:∀ n ∈ x.1.weights Try.prog TS,n≤reachBytes) :
  ∃ (A:Option Addr) (cap:Nat) (l:List α),cs = [.slice A l.length cap]∧l.length≤cap∧Kd.C K w A l.length l∧l.length * b≤reachBytes∧∀ q ∈ l,P q:=by
 rcases open_slice uT h with ⟨rfl,rfl⟩|⟨a,len,cap,m,n,D,Pl,rfl,_,hl,hm,hmm,hx,hel⟩
 ·exact ⟨none,0,[],rfl,Nat.le_refl _,Kd.C_nil _ _,by simp,by simp⟩
 ·simp only [if_true] at hmm
  subst hmm
  rw [cT] at hel
  have hd:x.1=.slice ((List.range len).map D) ((List.range (m - len)).map fun j=>D (len+j)):=by rw [hx]
  rw [hd] at hw
  have hw0:len * b≤reachBytes:=by
   have:=hw ((((List.range len).map D).length+((List.range (m - len)).map fun j=>D (len+j)).length) * b) (by rw [DataW.weights,uT];simp only [bT];exact List.mem_cons_self)
   simp only [List.length_map,List.length_range] at this
   exact Nat.le_trans (Nat.mul_le_mul_right _ (by omega)) this
  have hwi:∀ i,i < len→∀ q ∈ (D i).weights Try.prog T,q≤reachBytes:=by
   intro i hi q hq
   refine hw q ?_
   rw [DataW.weights,uT]
   refine List.mem_cons_of_mem _ (List.mem_append_left _ ?_)
   have:∀ (L:List (DataW H)),D i ∈ L→q ∈ DataW.weightsAll Try.prog T L:=by
    intro L
    induction L with
    | nil=>simp
    | cons d L ih2 =>
     intro hm
     rw [DataW.weightsAll]
     rcases List.mem_cons.1 hm with e|hm
     ·exact List.mem_append_left _ (e ▸ hq)
     ·exact List.mem_append_right _ (ih2 hm)
   exact this _ (List.mem_map.2 ⟨i,List.mem_range.2 hi,rfl⟩)
  obtain ⟨f,hf⟩:=choose_lt (α:=α) (n:=len) (p:=fun i q=>(∃ c,c.length=K.sz∧K.K w q c∧∀ j u,c[j]? = some u→w.cell? (a.add (i * K.sz+j))=some u)∧P q) (fun i hi=>by
   obtain ⟨c,hc1,hc2⟩:=hel i (by omega)
   obtain ⟨hcl,hcc⟩:=cells_of hc1
   obtain ⟨q,hq,hp⟩:=el n c (D i,Pl i) hc2 (hwi i hi)
   refine ⟨q,⟨c,hcl,hq,fun j u hu=>?_⟩,hp⟩
   have:=hcc j u hu
   rwa [add_add2] at this)
  refine ⟨some a,m,(List.range len).map f,by simp,by simpa using hl,⟨by simp,by simp;unfold maxLen at hm;omega,fun hp=>⟨a,rfl,fun j p hj=>?_⟩⟩,by simpa using hw0,fun q hq=>?_⟩
  ·rw [List.getElem?_map] at hj
   obtain ⟨j',hj',rfl⟩:=Option.map_eq_some_iff.1 hj
   have hjl:j < len:=by have:=(List.getElem?_eq_some_iff.1 hj').1;simpa using this
   have:j'=j:=by rw [List.getElem?_range hjl] at hj';injection hj' with hj';exact hj'.symm
   subst this
   obtain ⟨c,h1,h2,h3⟩:=(hf j' hjl).1
   exact ⟨c,h1,h2,h3⟩
  ·obtain ⟨i,hi,rfl⟩:=List.mem_map.1 hq
   exact (hf i (List.mem_range.1 hi)).2
theorem trod_struct3_ {t:TypeId} {f0 f1 f2:Go.Field} {fuel:Nat} {cs:List Value} {x:DataW H × List MemPlace} (ht:Try.prog.underlying t=some (.struct #[f0,f1,f2])) (h:DataW.trod enc Try.prog w 0 (fun _=>true) true fuel t cs=some x) :
  ∃ y0 y1 y2 n,x.1=.agg [y0.1,y1.1,y2.1]∧cs.length=Try.prog.cellsOf t∧DataW.trod enc Try.prog w 0 (fun _=>true) true n f0.type ((cs.drop f0.offset).take (Try.prog.cellsOf f0.type))=some y0 ∧
   DataW.trod enc Try.prog w 0 (fun _=>true) true n f1.type ((cs.drop f1.offset).take (Try.prog.cellsOf f1.type))=some y1∧DataW.trod enc Try.prog w 0 (fun _=>true) true n f2.type ((cs.drop f2.offset).take (Try.prog.cellsOf f2.type))=some y2:=by
 obtain ⟨xs,n,_,rfl,hl,hlen,hf⟩:=DataW.trod_struct ht h
 match xs,hlen with
 | [y0,y1,y2],_=>exact ⟨y0,y1,y2,n,by simp,hl,by simpa using hf 0 f0 rfl,by simpa using hf 1 f1 rfl,by simpa using hf 2 f2 rfl⟩
instance:Inhabited S40:=⟨z40⟩
instance:Inhabited S33:=⟨z33⟩
theorem open_fieldC (fuel:Nat) (cs:List Value) (x:DataW H × List MemPlace) (h:DataW.trod enc Try.prog w 0 (fun _=>true) true fuel 40 cs=some x)
  (hw:∀ n ∈ x.1.weights Try.prog 40,n≤reachBytes):∃ q:S40,k40.K w q cs∧q.f0.f1.length≤8796093022207:=by
 obtain ⟨y0,y1,y2,n,hx1,hl,h0,h1,h2⟩:=trod_struct3_ Try.underlying40 h
 have e0:Try.prog.cellsOf 40=4:=by kernel_rfl
 have e1:Try.prog.cellsOf 38=2:=by kernel_rfl
 have e2:Try.prog.cellsOf 3=1:=by kernel_rfl
 have e3:Try.prog.cellsOf 4=1:=by kernel_rfl
 rw [e0] at hl
 match cs,hl with
 | [u0,u1,u2,u3],_ =>
  simp only [e1,e2,e3,List.drop_zero,List.drop_succ_cons,List.take_succ_cons,List.take_zero] at h0 h1 h2
  obtain ⟨b,A,cap,l,hc,h4,h5,h6⟩:=open_namesC h0 (fun q hq=>hw q (by
   rw [hx1,DataW.weights,Try.underlying40]
   simp only [List.map_cons,List.map_nil,DataW.weightsEach]
   exact List.mem_append_left _ hq))
  obtain ⟨i,hi,_⟩:=DataW.trod_int Try.underlying3 h1
  obtain ⟨b2,hb,_⟩:=DataW.trod_bool Try.underlying4 h2
  simp only [List.cons.injEq,and_true] at hc hi hb
  obtain ⟨rfl,rfl⟩:=hc
  subst hi hb
  exact ⟨⟨⟨b,l⟩,i,b2⟩,k40_mk w ⟨⟨b,l⟩,i,b2⟩ h4 h5,h6⟩
def DefIn (d:S33):Prop:=d.f0.length≤4398046511104∧∀ f ∈ d.f0,f.f0.f1.length≤8796093022207
theorem open_defC (fuel:Nat) (cs:List Value) (x:DataW H × List MemPlace) (h:DataW.trod enc Try.prog w 0 (fun _=>true) true fuel 33 cs=some x)
  (hw:∀ n ∈ x.1.weights Try.prog 33,n≤reachBytes):∃ q:S33,k33.K w q cs∧DefIn q:=by
 obtain ⟨y0,y1,y2,n,hx1,hl,h0,h1,h2⟩:=trod_struct3_ Try.underlying33 h
 have e0:Try.prog.cellsOf 33=3:=by kernel_rfl
 have e1:Try.prog.cellsOf 31=1:=by kernel_rfl
 have e3:Try.prog.cellsOf 4=1:=by kernel_rfl
 rw [e0] at hl
 match cs,hl with
 | [u0,u1,u2],_ =>
  simp only [e1,e3,List.drop_zero,List.drop_succ_cons,List.take_succ_cons,List.take_zero] at h0 h1 h2
  obtain ⟨A,cap,l,hc,h4,h5,h6,h7⟩:=open_rowsC k40 (b:=48) (fun q:S40=>q.f0.f1.length≤8796093022207) Try.underlying31 (by kernel_rfl) (by kernel_rfl) open_fieldC h0 (fun q hq=>hw q (by
   rw [hx1,DataW.weights,Try.underlying33]
   simp only [List.map_cons,List.map_nil,DataW.weightsEach]
   exact List.mem_append_left _ hq))
  obtain ⟨b1,hb1,_⟩:=DataW.trod_bool Try.underlying4 h1
  obtain ⟨b2,hb2,_⟩:=DataW.trod_bool Try.underlying4 h2
  simp only [List.cons.injEq,and_true] at hc hb1 hb2
  subst hc hb1 hb2
  exact ⟨⟨l,b1,b2⟩,k33_mk w ⟨l,b1,b2⟩ h4 h5,by show l.length≤_;unfold reachBytes at h6;omega,h7⟩
def ScIn (s:List S33):Prop:=s.length≤4398046511104∧∀ d ∈ s,DefIn d
theorem open_schemaK {v:Value} {d:DataW H} {p:List MemPlace} {ts:List TypeId} {ds:List (DataW H)} {j:Nat} (hv:∃ A len cap,v=.slice A len cap) (h:DataW.Trod enc Try.prog w 0 (fun _=>true) true 23 v d p)
  (hsz:(DataW.weightsEach Try.prog ts ds).all (·≤ reachBytes)=true) (ht:ts[j]? = some 23) (hd:ds[j]? = some d) :
  ∃ (A:Option Addr) (cap:Nat) (l:List S33),v=.slice A l.length cap∧l.length≤cap∧Kd.C k33 w A l.length l∧ScIn l:=by
 obtain ⟨A,len,cap,rfl⟩:=hv
 obtain ⟨fuel,hf⟩:=h
 obtain ⟨A',cap',l,e,hl,hC,hR,hP⟩:=open_rowsC (enc:=enc) (w:=w) k33 (b:=32) DefIn Try.underlying23 (by kernel_rfl) (by kernel_rfl) open_defC hf (fun n hn=>by
  have:=List.all_eq_true.1 hsz _ (DataW.weights_mem_each ht hd n hn)
  simpa using this)
 simp only [Value.cells,List.cons.injEq,and_true,Value.slice.injEq] at e
 obtain ⟨rfl,rfl,rfl⟩:=e
 exact ⟨A,cap,l,rfl,hl,hC,by unfold reachBytes at hR;omega,hP⟩
end
end Go.Proofs.Ytoihiehoolehiaa.PX
