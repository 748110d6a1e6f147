/- A set of names that came in: what its cells hold. -/
import Derived.Test.YtbjkfllghkcgcaaNmK
set_option linter.unusedVariables false
set_option linter.unusedSimpArgs false
namespace Go.Proofs.Ytbjkfllghkcgcaa
open Go.RowKit Go.Sort Go.ChangeShapes Go.WideShapes Go.ChangeAt
section
variable {H : Type} {enc : TypeId × Value → H} {P : Program} {w : World} {T E : TypeId} {fuel : Nat} {cs : List Value} {y : DataW H × List MemPlace}
theorem open_strsC (hT : P.underlying T = some (.slice E)) (hE : P.underlying E = some .string) (hC : P.cellsOf E = 1) (hf : DataW.trod enc P w 0 (fun _ => true) true fuel T cs = some y) :
    ∃ a len cap, cs = [.slice a len cap] ∧ ∃ L : List Str, Hid (L.length = len) ∧ Rd w a (L.map encStr) ∧ (∀ s ∈ L, s.length ≤ maxLen) ∧ len ≤ cap ∧ cap ≤ maxLen := by
  rcases open_strings hT hE hC hf with ⟨hcs, _⟩ | ⟨x, l, c, zs, hcs, _, hl, hm, hz, _, hcell, hwz⟩
  · exact ⟨_, _, _, hcs, [], Lib.hid rfl, Rd.nil _ _, by simp, Nat.le_refl _, by unfold maxLen; omega⟩
  · have hzl : zs.length = c := by simpa using hz
    refine ⟨_, _, _, hcs, (zs.take l).map (·.data.toList), Lib.hid (by simp; omega), fun j u hu => ⟨x, rfl, ?_⟩, fun z hz => ?_, hl, hm⟩
    · rw [List.map_map, List.getElem?_map] at hu
      obtain ⟨z, hzj, rfl⟩ := Option.map_eq_some_iff.1 hu
      rw [List.getElem?_take] at hzj
      split at hzj
      · rename_i hj
        have hjl : j < zs.length := by omega
        have hc := hcell j hjl
        have e : zs.getD j ByteArray.empty = z := by simp [List.getD, hzj]
        rw [e] at hc
        exact hc
      · cases hzj
    · obtain ⟨s, hs, rfl⟩ := List.mem_map.1 hz
      have := hwz s (List.mem_of_mem_take hs)
      simpa using this
theorem open_names {v : Value} {d : DataW H} {p : List MemPlace} (hv : ∃ cs, v = .agg cs ∧ cs.size = Try.prog.cellsOf 25) (h : DataW.Trod enc Try.prog w 0 (fun _ => true) true 25 v d p) :
    ∃ b a len cap, v = .agg #[.bool b, .slice a len cap] ∧ ∃ L : List Str, Hid (L.length = len) ∧ Rd w a (L.map encStr) ∧ (∀ s ∈ L, s.length ≤ maxLen) ∧ len ≤ cap ∧ cap ≤ maxLen := by
  obtain ⟨cs, rfl, hsz⟩ := hv
  obtain ⟨fuel, hf⟩ := h
  obtain ⟨y0, y1, n, _, hl, h0, h1⟩ := trod_struct2 Try.underlying25 hf
  have h2 : Try.prog.cellsOf 25 = 2 := by kernel_rfl
  rw [h2] at hsz
  obtain ⟨l⟩ := cs
  match l, hsz with
  | [u0, u1], _ =>
    have e1 : Try.prog.cellsOf 4 = 1 := by kernel_rfl
    have e2 : Try.prog.cellsOf 23 = 1 := by kernel_rfl
    simp only [Value.cells, e1, e2, List.drop_zero, List.drop_succ_cons, List.take_succ_cons, List.take_zero] at h0 h1
    obtain ⟨b, hb, _⟩ := DataW.trod_bool Try.underlying4 h0
    obtain ⟨a, len, cap, hc, L, hL⟩ := open_strsC Try.underlying23 Try.underlying9 (by kernel_rfl) h1
    simp only [List.cons.injEq, and_true] at hb hc
    subst hb hc
    exact ⟨b, a, len, cap, rfl, L, hL⟩
end
end Go.Proofs.Ytbjkfllghkcgcaa
