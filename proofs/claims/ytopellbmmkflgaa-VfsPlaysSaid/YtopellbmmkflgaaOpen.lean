/- Arguments, as they come in: bytes, numbers, strings, rows of these. -/
import Derived.Test.YtopellbmmkflgaaChecked
import Derived.Test.YtopellbmmkflgaaBase
import Derived.ProofKit
import Derived.OpenShut
import Derived.ShutString
import Derived.ChangeOld
import Derived.SliceStrings
set_option linter.unusedVariables false
set_option linter.unusedSimpArgs false
namespace Go.Proofs.Ytopellbmmkflgaa
open Go.RowKit Go.ChangeShapes Go.WideShapes Go.ChangeAt
open Go.ChangeMaps (open_string shut_string)

def iv (n : Int) : Value := .int .i64 n
def sv (s : ByteArray) : Value := .string s

section
variable {H : Type} {enc : TypeId × Value → H} {P : Program} {w : World} {T E : TypeId} {a : Option Addr} {len cap : Nat} {d : DataW H} {p : List MemPlace}

theorem open_bytes (hT : P.underlying T = some (.slice E)) (hE : P.underlying E = some (.int .u8)) (hC : P.cellsOf E = 1) (h : DataW.Trod enc P w 0 (fun _ => true) true T (.slice a len cap) d p) :
    ∃ bs : List UInt8, Hid (bs.length = len) ∧ Rd w a (bs.map bv) ∧ len ≤ cap ∧ cap ≤ maxLen := by
  obtain ⟨fuel, hf⟩ := h
  rcases open_ints hT hE hC hf with ⟨hcs, _⟩ | ⟨x, l, c, zs, hcs, _, hl, hm, hz, _, hcell, hwz⟩
  · simp [Value.cells] at hcs
    obtain ⟨rfl, rfl, rfl⟩ := hcs
    exact ⟨[], Lib.hid rfl, Rd.nil _ _, Nat.le_refl _, by unfold maxLen; omega⟩
  · simp [Value.cells] at hcs
    obtain ⟨rfl, rfl, rfl⟩ := hcs
    have hzl : zs.length = cap := by simpa using hz
    refine ⟨(zs.take len).map fun z => UInt8.ofNat z.toNat, Lib.hid (by simp; omega), fun j u hu => ⟨x, rfl, ?_⟩, hl, hm⟩
    rw [List.map_map, List.getElem?_map] at hu
    obtain ⟨z, hzj, rfl⟩ := Option.map_eq_some_iff.1 hu
    rw [List.getElem?_take] at hzj
    split at hzj
    · rename_i hj
      have hjl : j < zs.length := by omega
      have hw := hwz z (List.mem_of_getElem? hzj)
      have hc := hcell j hjl
      have e : zs.getD j 0 = z := by simp [List.getD, hzj]
      rw [e] at hc
      rw [hc]
      have hb : 0 ≤ z ∧ z ≤ 255 := by
        simp [Lit.wf, IntKind.min, IntKind.max, IntKind.signed, IntKind.bits] at hw
        omega
      simp only [Function.comp, bv]
      congr 2
      simp
      omega
    · cases hzj

theorem open_nums (hT : P.underlying T = some (.slice E)) (hE : P.underlying E = some (.int .i64)) (hC : P.cellsOf E = 1) (h : DataW.Trod enc P w 0 (fun _ => true) true T (.slice a len cap) d p) :
    ∃ zs : List Int, Hid (zs.length = len) ∧ Rd w a (zs.map iv) ∧ (∀ z ∈ zs, -9223372036854775808 ≤ z ∧ z ≤ 9223372036854775807) ∧ len ≤ cap ∧ cap ≤ maxLen := by
  obtain ⟨fuel, hf⟩ := h
  rcases open_ints hT hE hC hf with ⟨hcs, _⟩ | ⟨x, l, c, zs, hcs, _, hl, hm, hz, _, hcell, hwz⟩
  · simp [Value.cells] at hcs
    obtain ⟨rfl, rfl, rfl⟩ := hcs
    exact ⟨[], Lib.hid rfl, Rd.nil _ _, by simp, Nat.le_refl _, by unfold maxLen; omega⟩
  · simp [Value.cells] at hcs
    obtain ⟨rfl, rfl, rfl⟩ := hcs
    have hzl : zs.length = cap := by simpa using hz
    refine ⟨zs.take len, Lib.hid (by simp; omega), fun j u hu => ⟨x, rfl, ?_⟩, fun z hz => ?_, hl, hm⟩
    · rw [List.getElem?_map] at hu
      obtain ⟨z, hzj, rfl⟩ := Option.map_eq_some_iff.1 hu
      rw [List.getElem?_take] at hzj
      split at hzj
      · rename_i hj
        have hjl : j < zs.length := by omega
        have hc := hcell j hjl
        have e : zs.getD j 0 = z := by simp [List.getD, hzj]
        rw [e] at hc
        exact hc
      · cases hzj
    · have hw := hwz z (List.mem_of_mem_take hz)
      simp [Lit.wf, IntKind.min, IntKind.max, IntKind.signed, IntKind.bits] at hw
      omega

theorem int_bounds {n : Int} (h : (Lit.int .i64 n).wf = true) : -9223372036854775808 ≤ n ∧ n ≤ 9223372036854775807 := by
  simp [Lit.wf, IntKind.min, IntKind.max, IntKind.signed, IntKind.bits] at h
  omega
theorem byte_bounds {n : Int} (h : (Lit.int .u8 n).wf = true) : 0 ≤ n ∧ n ≤ 255 := by
  simp [Lit.wf, IntKind.min, IntKind.max, IntKind.signed, IntKind.bits] at h
  omega

theorem open_strs (hT : P.underlying T = some (.slice E)) (hE : P.underlying E = some .string) (hC : P.cellsOf E = 1) (h : DataW.Trod enc P w 0 (fun _ => true) true T (.slice a len cap) d p) :
    ∃ ss : List ByteArray, Hid (ss.length = len) ∧ Rd w a (ss.map sv) ∧ (∀ s ∈ ss, s.size ≤ maxLen) ∧ len ≤ cap ∧ cap ≤ maxLen := by
  obtain ⟨fuel, hf⟩ := h
  rcases open_strings hT hE hC hf with ⟨hcs, _⟩ | ⟨x, l, c, zs, hcs, _, hl, hm, hz, _, hcell, hwz⟩
  · simp [Value.cells] at hcs
    obtain ⟨rfl, rfl, rfl⟩ := hcs
    exact ⟨[], Lib.hid rfl, Rd.nil _ _, by simp, Nat.le_refl _, by unfold maxLen; omega⟩
  · simp [Value.cells] at hcs
    obtain ⟨rfl, rfl, rfl⟩ := hcs
    have hzl : zs.length = cap := by simpa using hz
    refine ⟨zs.take len, Lib.hid (by simp; omega), fun j u hu => ⟨x, rfl, ?_⟩, fun z hz => ?_, hl, hm⟩
    · rw [List.getElem?_map] at hu
      obtain ⟨z, hzj, rfl⟩ := Option.map_eq_some_iff.1 hu
      rw [List.getElem?_take] at hzj
      split at hzj
      · rename_i hj
        have hjl : j < zs.length := by omega
        have hc := hcell j hjl
        have e : zs.getD j ByteArray.empty = z := by simp [List.getD, hzj]
        rw [e] at hc
        exact hc
      · cases hzj
    · exact hwz z (List.mem_of_mem_take hz)
end
end Go.Proofs.Ytopellbmmkflgaa
