/- Arguments, as they come in: rows of acts. -/
import Derived.Test.YtopellbmmkflgaaVsO
import Derived.Test.YtopellbmmkflgaaRfE
set_option linter.unusedVariables false
set_option linter.unusedSimpArgs false
namespace Go.Proofs.Ytopellbmmkflgaa
open Go.RowKit Go.ChangeShapes Go.WideShapes Go.ChangeAt Go.Deep
structure AcR where
  K : Int
  N : Int
  nm : Str
  q : Rw
  Ak : Option Addr
  nk : Nat
  ck : Nat
  ks : List Int
def AcR.cells (a : AcR) : List Value := [.int .i64 a.K, .int .i64 a.N, encStr a.nm, .slice a.q.A a.q.n a.q.c, .slice a.Ak a.nk a.ck]
structure AcR.Ok (w : World) (a : AcR) : Prop where
  k0 : -9223372036854775808 ≤ a.K
  k1 : a.K ≤ 9223372036854775807
  n0 : -9223372036854775808 ≤ a.N
  n1 : a.N ≤ 9223372036854775807
  nm : a.nm.length ≤ maxLen
  b : a.q.Ok w
  klen : Hid (a.ks.length = a.nk)
  krd : Rd w a.Ak (a.ks.map iv)
  kle : a.nk ≤ a.ck
  klec : a.ck ≤ maxLen
instance : Inhabited AcR := ⟨⟨0, 0, [], default, none, 0, 0, []⟩⟩
section
variable {H : Type} {enc : TypeId × Value → H} {w : World} {a : Option Addr} {len cap : Nat} {d : DataW H} {p : List MemPlace}
theorem open_nums_cell {fuel : Nat} {v : Value} {x : DataW H × List MemPlace}
    (h : DataW.trod enc Try.prog w 0 (fun _ => true) true fuel 22 [v] = some x) : ∃ A n c, ∃ ks : List Int, v = .slice A n c ∧ Hid (ks.length = n) ∧ Rd w A (ks.map iv) ∧ n ≤ c ∧ c ≤ maxLen := by
  have key : ∀ (A : Option Addr) (n c : Nat), v = .slice A n c → ∃ A n c, ∃ ks : List Int, v = .slice A n c ∧ Hid (ks.length = n) ∧ Rd w A (ks.map iv) ∧ n ≤ c ∧ c ≤ maxLen := fun A n c e => by
    subst e
    obtain ⟨ks, h1, h2, _, h3, h4⟩ := open_nums (d := x.1) (p := x.2) Try.underlying22 Try.underlying3 (by kernel_rfl) ⟨fuel, by simpa [Value.cells] using h⟩
    exact ⟨A, n, c, ks, rfl, h1, h2, h3, h4⟩
  rcases open_slice Try.underlying22 h with ⟨hcs, _⟩ | ⟨a, l, c, m, k, D, Pl, hcs, _⟩
  · exact key none 0 0 (by simpa using hcs)
  · exact key _ _ _ (by simpa using hcs)
set_option maxRecDepth 100000 in
theorem open_act {fuel : Nat} {cs : List Value} {x : DataW H × List MemPlace} (h : DataW.trod enc Try.prog w 0 (fun _ => true) true fuel 53 cs = some x) : ∃ q : AcR, cs = q.cells ∧ q.Ok w := by
  have cI : Try.prog.cellsOf 3 = 1 := by kernel_rfl
  have cS : Try.prog.cellsOf 9 = 1 := by kernel_rfl
  have cB : Try.prog.cellsOf 31 = 1 := by kernel_rfl
  have cK : Try.prog.cellsOf 22 = 1 := by kernel_rfl
  have cA : Try.prog.cellsOf 53 = 5 := by kernel_rfl
  obtain ⟨xs, n, _, _, hl, hlen, hf⟩ := DataW.trod_struct Try.underlying53 h
  rw [cA] at hl
  match cs, hl with
  | [c0, c1, c2, c3, c4], _ =>
    match xs, hlen with
    | [y0, y1, y2, y3, y4], _ =>
      have h0 : DataW.trod enc Try.prog w 0 (fun _ => true) true n 3 [c0] = some y0 := by simpa [cI] using hf 0 _ rfl
      have h1 : DataW.trod enc Try.prog w 0 (fun _ => true) true n 3 [c1] = some y1 := by simpa [cI] using hf 1 _ rfl
      have h2 : DataW.trod enc Try.prog w 0 (fun _ => true) true n 9 [c2] = some y2 := by simpa [cS] using hf 2 _ rfl
      have h3 : DataW.trod enc Try.prog w 0 (fun _ => true) true n 31 [c3] = some y3 := by simpa [cB] using hf 3 _ rfl
      have h4 : DataW.trod enc Try.prog w 0 (fun _ => true) true n 22 [c4] = some y4 := by simpa [cK] using hf 4 _ rfl
      obtain ⟨K, e0, _, w0⟩ := DataW.trod_int Try.underlying3 h0
      obtain ⟨N, e1, _, w1⟩ := DataW.trod_int Try.underlying3 h1
      obtain ⟨s, e2, _, w2⟩ := DataW.trod_string Try.underlying9 h2
      obtain ⟨q, e3, hq⟩ := open_bytes_cell Try.underlying31 Try.underlying5 (by kernel_rfl) h3
      obtain ⟨A, nk, ck, ks, e4, k1, k2, k3, k4⟩ := open_nums_cell h4
      injection e0 with e0
      injection e1 with e1
      injection e2 with e2
      subst e0 e1 e2 e3 e4
      exact ⟨⟨K, N, s.data.toList, q, A, nk, ck, ks⟩, by simp [AcR.cells, encStr, Rw.val], (int_bounds w0).1, (int_bounds w0).2, (int_bounds w1).1, (int_bounds w1).2, by simpa using w2, hq, k1, k2, k3, k4⟩
set_option maxRecDepth 100000 in
theorem open_acts (h : DataW.Trod enc Try.prog w 0 (fun _ => true) true 48 (.slice a len cap) d p) :
    ∃ rs : List AcR, Hid (rs.length = len) ∧ (len = 0 ∨ ∃ g off, a = some ⟨g, off, none⟩ ∧ ∀ (i : Nat) (hi : i < rs.length) (k : Nat) (u : Value), rs[i].cells[k]? = some u → w.cell? ⟨g, off + i * 5 + k, none⟩ = some u) ∧ (∀ q ∈ rs, q.Ok w) ∧ len ≤ cap ∧ cap ≤ maxLen := by
  have cA : Try.prog.cellsOf 53 = 5 := by kernel_rfl
  obtain ⟨fuel, hf⟩ := h
  rcases open_slice Try.underlying48 hf with ⟨hcs, _⟩ | ⟨x, l, c, m, n, D, Pl, hcs, _, hl, hm, hmm, _, hx⟩
  · simp [Value.cells] at hcs
    obtain ⟨rfl, rfl, rfl⟩ := hcs
    exact ⟨[], Lib.hid rfl, .inl rfl, by simp, Nat.le_refl _, by unfold maxLen; omega⟩
  · simp [Value.cells] at hcs
    obtain ⟨rfl, rfl, rfl⟩ := hcs
    simp only [if_true] at hmm
    subst hmm
    rw [cA] at hx
    obtain ⟨f, hf2⟩ := choose_lt (α := AcR) (n := len) (p := fun i q => w.cells? 0 (x.add (i * 5)) 5 = some q.cells ∧ q.Ok w) (fun i hi => by
      obtain ⟨cs', e1, e2⟩ := hx i (by omega)
      obtain ⟨q, e3, hq⟩ := open_act e2
      exact ⟨q, e3 ▸ e1, hq⟩)
    refine ⟨(List.range len).map f, Lib.hid (by simp), ?_, fun q hq => ?_, hl, hm⟩
    · by_cases h0 : len = 0
      · exact .inl h0
      · refine .inr ?_
        obtain ⟨b, off, sp⟩ := x
        have hsp : sp = none := by
          obtain ⟨_, hlen, hc⟩ := World.cells?_some (hf2 0 (by omega)).1
          have hrd : Rd w (some ((⟨b, off, sp⟩ : Addr).add (0 * 5))) (f 0).cells := fun j u hu => ⟨_, rfl, (hc j (by rw [← hlen]; exact (List.getElem?_eq_some_iff.1 hu).1)).trans hu⟩
          obtain ⟨b', off', e, _⟩ := hrd.spot (by rw [hlen]; omega)
          injection e with e
          have e2 := congrArg Addr.spot e
          simpa [Addr.add] using e2
        subst hsp
        refine ⟨b, off, rfl, fun i hi k u hu => ?_⟩
        have hi' : i < len := by simpa using hi
        have h1 := (hf2 i hi').1
        have e1 : ((List.range len).map f)[i] = f i := by simp
        rw [e1] at hu
        obtain ⟨_, hlen, hc⟩ := World.cells?_some h1
        have := hc k (by rw [← hlen]; exact (List.getElem?_eq_some_iff.1 hu).1)
        rw [add_plain', add_plain'] at this
        exact this.trans hu
    · obtain ⟨i, hi, rfl⟩ := List.mem_map.1 hq
      exact (hf2 i (List.mem_range.1 hi)).2
end
end Go.Proofs.Ytopellbmmkflgaa
