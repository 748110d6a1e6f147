/- Arguments, as they come in: rows of rows of bytes. -/
import Derived.Test.YtopellbmmkflgaaOpen
import Derived.Deep.Slices
set_option linter.unusedVariables false
set_option linter.unusedSimpArgs false
namespace Go.Proofs.Ytopellbmmkflgaa
open Go.RowKit Go.ChangeShapes Go.WideShapes Go.ChangeAt Go.Deep
/-- A slice of bytes, as a value, and what it reads as. -/
structure Rw where
  A : Option Addr
  n : Nat
  c : Nat
  b : List UInt8
def Rw.val (q : Rw) : Value := .slice q.A q.n q.c
structure Rw.Ok (w : World) (q : Rw) : Prop where
  len : Hid (q.b.length = q.n)
  rd : Rd w q.A (q.b.map bv)
  le : q.n ≤ q.c
  lec : q.c ≤ maxLen
instance : Inhabited Rw := ⟨⟨none, 0, 0, []⟩⟩
section
variable {H : Type} {enc : TypeId × Value → H} {P : Program} {w : World} {T E Q : TypeId} {a : Option Addr} {len cap : Nat} {d : DataW H} {p : List MemPlace}
theorem open_bytes_cell {fuel : Nat} {v : Value} {x : DataW H × List MemPlace} (hE : P.underlying E = some (.slice Q)) (hQ : P.underlying Q = some (.int .u8)) (cQ : P.cellsOf Q = 1)
    (h : DataW.trod enc P w 0 (fun _ => true) true fuel E [v] = some x) : ∃ q : Rw, v = q.val ∧ q.Ok w := by
  have key : ∀ (A : Option Addr) (n c : Nat), v = .slice A n c → ∃ q : Rw, v = q.val ∧ q.Ok w := fun A n c e => by
    subst e
    obtain ⟨bs, h1, h2, h3, h4⟩ := open_bytes (d := x.1) (p := x.2) hE hQ cQ ⟨fuel, by simpa [Value.cells] using h⟩
    exact ⟨⟨A, n, c, bs⟩, rfl, h1, h2, h3, h4⟩
  rcases open_slice hE h with ⟨hcs, _⟩ | ⟨a, l, c, m, k, D, Pl, hcs, _⟩
  · exact key none 0 0 (by simpa using hcs)
  · exact key _ _ _ (by simpa using hcs)
theorem open_byte_rows (hT : P.underlying T = some (.slice E)) (hE : P.underlying E = some (.slice Q)) (hQ : P.underlying Q = some (.int .u8)) (cE : P.cellsOf E = 1) (cQ : P.cellsOf Q = 1)
    (h : DataW.Trod enc P w 0 (fun _ => true) true T (.slice a len cap) d p) :
    ∃ rs : List Rw, Hid (rs.length = len) ∧ Rd w a (rs.map Rw.val) ∧ (∀ q ∈ rs, q.Ok w) ∧ len ≤ cap ∧ cap ≤ maxLen := by
  obtain ⟨fuel, hf⟩ := h
  rcases open_slice1 hT cE hf with ⟨hcs, _⟩ | ⟨x, l, c, m, n, V, D, Pl, hcs, _, hl, hm, hmm, _, hx⟩
  · simp [Value.cells] at hcs
    obtain ⟨rfl, rfl, rfl⟩ := hcs
    exact ⟨[], Lib.hid rfl, Rd.nil _ _, by simp, Nat.le_refl _, by unfold maxLen; omega⟩
  · simp [Value.cells] at hcs
    obtain ⟨rfl, rfl, rfl⟩ := hcs
    simp only [if_true] at hmm
    subst hmm
    obtain ⟨f, hf2⟩ := choose_lt (α := Rw) (n := len) (p := fun i q => V i = q.val ∧ q.Ok w) (fun i hi => open_bytes_cell hE hQ cQ (hx i (by omega)).2)
    refine ⟨(List.range len).map f, Lib.hid (by simp), fun j u hu => ⟨x, rfl, ?_⟩, fun q hq => ?_, hl, hm⟩
    · rw [List.map_map, List.getElem?_map] at hu
      obtain ⟨i, hi, rfl⟩ := Option.map_eq_some_iff.1 hu
      have hj : j < len := by have := (List.getElem?_eq_some_iff.1 hi).1; simpa using this
      obtain rfl : i = j := by rw [List.getElem?_range hj] at hi; injection hi with hi; exact hi.symm
      rw [(hx i (by omega)).1, (hf2 i hj).1]
      rfl
    · obtain ⟨i, hi, rfl⟩ := List.mem_map.1 hq
      exact (hf2 i (List.mem_range.1 hi)).2
end
end Go.Proofs.Ytopellbmmkflgaa
