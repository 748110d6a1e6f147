/- Files in memory: a map from names to bytes, a row of changes, the object that holds them. -/
import Derived.Test.YtopellbmmkflgaaVfP
import Derived.Maps.OwnOps
import Derived.Maps.OwnSet
import Derived.Maps.RangeWalk
import Derived.Maps.Ext
import Derived.Sort.EncStr
import Derived.Test.YtopellbmmkflgaaProg
set_option linter.unusedVariables false
set_option linter.unusedSimpArgs false
namespace Go.Proofs.Ytopellbmmkflgaa
open Go.RowKit Go.Maps Go.Sort

/-! ### Of the world's blocks only some may have turned -/
structure Tr (X : Nat → Prop) (w w' : World) : Prop where
  os : w'.os = w.os
  tape : w'.tape = w.tape
  output : w'.output = w.output
  size : w.heap.size ≤ w'.heap.size
  block : ∀ i, i < w.heap.size → ¬ X i → w'.heap[i]? = w.heap[i]?
section
variable {X Y Z : Nat → Prop} {w w' w'' : World}
theorem Tr.rfl' (X : Nat → Prop) (w : World) : Tr X w w := ⟨rfl, rfl, rfl, Nat.le_refl _, fun _ _ _ => rfl⟩
theorem Tr.of_grown {row : Option Nat} (h : w.grownBy w' row) (hr : ∀ g, row = some g → X g) : Tr X w w' := ⟨h.os, h.tape, h.output, h.size, fun i hi hX => h.block i hi (fun e => hX (hr i e.symm))⟩
theorem Tr.of_gr (h : Gr w w') : Tr X w w' := ⟨h.os, h.tape, h.output, h.size, fun i hi _ => h.block i hi⟩
theorem Tr.trans (h : Tr X w w') (k : Tr Y w' w'') (hY : ∀ i, i < w.heap.size → Y i → X i) : Tr X w w'' :=
  ⟨k.os.trans h.os, k.tape.trans h.tape, k.output.trans h.output, Nat.le_trans h.size k.size, fun i hi hX => (k.block i (Nat.lt_of_lt_of_le hi h.size) (fun hy => hX (hY i hi hy))).trans (h.block i hi hX)⟩
theorem Tr.mono (h : Tr X w w') (hY : ∀ i, i < w.heap.size → X i → Y i) : Tr Y w w' := ⟨h.os, h.tape, h.output, h.size, fun i hi hX => h.block i hi (fun hx => hX (hY i hi hx))⟩
theorem Tr.gr_right (h : Tr X w w') (k : Gr w' w'') : Tr X w w'' := h.trans (Tr.of_gr (X := fun _ => False) k) (fun _ _ h => h.elim)
theorem Tr.below {B : Nat} (h : Tr X w w') (hB : B ≤ w.heap.size) (hX : ∀ i, X i → B ≤ i) : Below B w w' :=
  ⟨h.os, h.tape, h.output, h.size, fun i hi => h.block i (by omega) (fun hx => by have := hX i hx; omega)⟩
theorem Tr.row {g : Nat} {t : TypeId} {xs : List Value} (h : Tr X w w') (hr : Row w g t xs) (hX : ¬ X g) : Row w' g t xs := (h.block g hr.lt hX).trans hr
theorem Tr.rd {A : Option Addr} {xs : List Value} (h : Tr X w w') (hr : Rd w A xs) (hX : ∀ ad, A = some ad → ¬ X ad.block) : Rd w' A xs := fun j u hu => by
  obtain ⟨ad, e, hc⟩ := hr j u hu
  refine ⟨ad, e, ?_⟩
  have hlt := World.block_lt_of_cell? w _ hc
  unfold World.cell? at hc ⊢
  rw [h.block _ hlt (by rw [block_of_add]; exact hX ad e)]
  exact hc
end

/-! ### Bytes that lie in blocks of a lot -/
def RdX (w : World) (X : Nat → Prop) (A : Option Addr) (xs : List Value) : Prop :=
  ∀ j u, xs[j]? = some u → ∃ ad cs f, A = some ad ∧ w.cell? (ad.add j) = some u ∧ X ad.block ∧ w.heap[ad.block]? = some (.cells cs 5 f)
def Cont (w : World) (X : Nat → Prop) (v : Value) (b : Str) : Prop := ∃ A n c, v = .slice A n c ∧ b.length = n ∧ n ≤ c ∧ c ≤ maxLen ∧ RdX w X A (b.map bv)
section
variable {X X' Y : Nat → Prop} {w w' : World} {A : Option Addr} {xs : List Value} {v : Value} {b : Str}
theorem RdX.rd (h : RdX w X A xs) : Rd w A xs := fun j u hu => by
  obtain ⟨ad, _, _, e, hc, _⟩ := h j u hu
  exact ⟨ad, e, hc⟩
theorem RdX.tr (h : RdX w X A xs) (t : Tr Y w w') (hd : ∀ i cs f, Y i → X i → w.heap[i]? = some (.cells cs 5 f) → False) (hX : ∀ i, X i → X' i) : RdX w' X' A xs := fun j u hu => by
  obtain ⟨ad, cs, f, e, hc, hx, hh⟩ := h j u hu
  have hY : ¬ Y ad.block := fun hy => hd _ _ _ hy hx hh
  have hlt : ad.block < w.heap.size := (Array.getElem?_eq_some_iff.1 hh).1
  have hb := t.block _ hlt hY
  refine ⟨ad, cs, f, e, ?_, hX _ hx, hb.trans hh⟩
  unfold World.cell? at hc ⊢
  rw [block_of_add] at hc ⊢
  rw [hb]
  exact hc
theorem Cont.tr (h : Cont w X v b) (t : Tr Y w w') (hd : ∀ i cs f, Y i → X i → w.heap[i]? = some (.cells cs 5 f) → False) (hX : ∀ i, X i → X' i) : Cont w' X' v b := by
  obtain ⟨A, n, c, e, h1, h2, h3, h4⟩ := h
  exact ⟨A, n, c, e, h1, h2, h3, h4.tr t hd hX⟩
theorem Cont.nil (w : World) (X : Nat → Prop) : Cont w X (.slice none 0 0) [] := ⟨none, 0, 0, rfl, rfl, Nat.le_refl _, by unfold maxLen; omega, fun j u h => by simp at h⟩
theorem Cont.half {n c : Nat} (h : Cont w X (.slice A n c) b) : Cont w X (.slice A (n / 2) c) (b.take (b.length / 2)) := by
  obtain ⟨A', n', c', e, h1, h2, h3, h4⟩ := h
  injection e with e1 e2 e3
  subst e1 e2 e3
  refine ⟨A, n / 2, c, rfl, by rw [List.length_take, h1]; omega, by omega, h3, fun j u hu => ?_⟩
  rw [List.map_take, List.getElem?_take] at hu
  split at hu
  · exact h4 j u hu
  · cases hu
/-- Bytes that a slice of its own holds. -/
theorem Cont.of_own {B n c : Nat} (h : Own w B 5 1 A n c (b.map bv)) (hX : ∀ g, blkOf A = some g → X g) : Cont w X (.slice A n c) b := by
  have hl := h.1
  rw [List.length_map, Nat.mul_one] at hl
  refine ⟨A, n, c, rfl, hl, h.le.1, h.le.2, fun j u hu => ?_⟩
  rcases h.2 with ⟨_, rfl, _⟩ | ⟨g, rest, rfl, hb, hr, _⟩
  · have : b = [] := List.eq_nil_of_length_eq_zero hl
    subst this
    simp at hu
  · refine ⟨⟨g, 0, none⟩, _, _, rfl, ?_, hX g rfl, hr⟩
    rw [add_plain, hr.cell]
    have hlt := (List.getElem?_eq_some_iff.1 hu).1
    rw [List.getElem?_append_left hlt]
    exact hu
end

/-! ### A map -/
/-- An element reads as itself. -/
def R1 : Value → Option (DataW Value × List MemPlace)
  | .slice A n c => some (.held (.slice A n c), [])
  | _ => none
theorem R1_inv {v : Value} {y : DataW Value × List MemPlace} (h : R1 v = some y) : ∃ q : Option Addr × Nat × Nat, v = .slice q.1 q.2.1 q.2.2 ∧ y = (.held v, []) := by
  unfold R1 at h
  split at h
  · injection h with h; exact ⟨(_, _, _), rfl, h.symm⟩
  · cases h
abbrev ZF := Value × (Str × Str)
def zent (q : ZF) : Lit × DataW Value := (.string q.2.1, .held q.1)
def FilesAt (w : World) (X : Nat → Prop) (b : Nat) (l : Files) : Prop :=
  ∃ z : List ZF, z.map (·.2) = l ∧ (∀ q ∈ z, Cont w X q.1 q.2.2) ∧ w.ownsMap Try.prog 9 R1 b l.length (.map (z.map zent))

theorem same_str (a b : Str) : (Lit.string a).sameKey (.string b) = (a == b) := rfl
theorem before_str (a b : Str) : (Lit.string a).before (.string b) = bytesBefore a b := rfl
theorem zent_find (z : List ZF) (n : Str) (d : DataW Value) : (DataW.map (z.map zent)).atKey (.string n) d = match z.find? (fun q => q.2.1 == n) with | some q => .held q.1 | none => d := by
  unfold DataW.atKey
  simp only [List.find?_map]
  have : ((fun p : Lit × DataW Value => p.1.sameKey (.string n)) ∘ zent) = fun q : ZF => q.2.1 == n := rfl
  rw [this]
  cases z.find? (fun q => q.2.1 == n) <;> rfl
theorem zget (z : List ZF) (n : Str) : Files.get (z.map (·.2)) n = (z.find? (fun q => q.2.1 == n)).map (·.2.2) := by
  unfold Files.get
  rw [List.find?_map]
  have : ((fun p : Str × Str => p.1 == n) ∘ fun q : ZF => q.2) = fun q : ZF => q.2.1 == n := rfl
  rw [this]
  cases z.find? (fun q => q.2.1 == n) <;> rfl
theorem zhas (z : List ZF) (n : Str) : Maps.has (DataW.map (z.map zent)) (.string n) = (Files.get (z.map (·.2)) n).isSome := by
  show (z.map zent).any (fun p => p.1.sameKey (.string n)) = _
  rw [zget, List.any_map]
  have : ((fun p : Lit × DataW Value => p.1.sameKey (.string n)) ∘ zent) = fun q : ZF => q.2.1 == n := rfl
  rw [this, Option.isSome_map, List.isSome_find?]
theorem zput (z : List ZF) (n b : Str) (v : Value) : (DataW.map (z.map zent)).put (.string n) (.held v) = .map ((insBy (fun q : ZF => q.2.1) (v, (n, b)) (z.filter fun q => !(q.2.1 == n))).map zent) := by
  show DataW.map (DataW.insert (.string n, .held v) ((z.map zent).filter fun p => !p.1.sameKey (.string n))) = _
  have h1 : ((z.map zent).filter fun p => !p.1.sameKey (.string n)) = (z.filter fun q => !(q.2.1 == n)).map zent := by
    rw [List.filter_map]; rfl
  rw [h1]
  congr 1
  generalize (z.filter fun q => !(q.2.1 == n)) = y
  induction y with
  | nil => rfl
  | cons x r ih =>
    simp only [List.map_cons, DataW.insert, insBy]
    have hb : (Lit.string n).before (zent x).1 = bytesBefore n x.2.1 := rfl
    rw [hb]
    split
    · rfl
    · rw [ih]; rfl
theorem zput_fst (z : List ZF) (n b : Str) (v : Value) : (insBy (fun q : ZF => q.2.1) (v, (n, b)) (z.filter fun q => !(q.2.1 == n))).map (·.2) = Files.put (z.map (·.2)) n b := by
  unfold Files.put
  rw [insBy_map (fun q : ZF => q.2) (·.1) (v, (n, b)), List.filter_map]
  rfl
theorem zdel (z : List ZF) (n : Str) : (DataW.map (z.map zent)).del (.string n) = .map ((z.filter fun q => !(q.2.1 == n)).map zent) := by
  show DataW.map ((z.map zent).filter fun p => !p.1.sameKey (.string n)) = _
  rw [List.filter_map]; rfl
theorem zdel_fst (z : List ZF) (n : Str) : (z.filter fun q => !(q.2.1 == n)).map (·.2) = Files.del (z.map (·.2)) n := by
  unfold Files.del
  rw [List.filter_map]
  rfl
theorem ownsMap_tight {w : World} {b n : Nat} {es : List (Lit × DataW Value)} (h : w.ownsMap Try.prog 9 R1 b n (.map es)) : w.ownsMap Try.prog 9 R1 b es.length (.map es) := by
  obtain ⟨a, clock, hb, F, hs, hD⟩ := h
  refine ⟨a, clock, hb, F, ?_, hD⟩
  injection hD with hD
  rw [hD, length_read]
  exact Nat.le_refl _
theorem ownsMap_at {w w' : World} {b n : Nat} {D : DataW Value} (h : w.ownsMap Try.prog 9 R1 b n D) (e : w'.heap[b]? = w.heap[b]?) : w'.ownsMap Try.prog 9 R1 b n D := by
  obtain ⟨a, clock, hb, r⟩ := h
  exact ⟨a, clock, e.trans hb, r⟩
theorem keyed : Keyed Try.prog 9 := string_keyed Try.underlying9
theorem key_of {n : Str} (h : n.length ≤ maxLen) : keyOf Try.prog 9 (encStr n) = some (.string n) := by
  have := WideMaps.keyOf_string_mk (P := Try.prog) Try.underlying9 (s := ⟨n.toArray⟩) (by simpa [ByteArray.size] using h)
  simpa using this

section
variable {X X' : Nat → Prop} {w w' : World} {b : Nat} {l : Files} {n : Str}
theorem FilesAt.lt (h : FilesAt w X b l) : b < w.heap.size := by
  obtain ⟨z, _, _, h⟩ := h
  exact h.lt
theorem FilesAt.keep (h : FilesAt w X b l) (e : w'.heap[b]? = w.heap[b]?) (hk : ∀ v xs, Cont w X v xs → Cont w' X' v xs) : FilesAt w' X' b l := by
  obtain ⟨z, h1, h2, h3⟩ := h
  exact ⟨z, h1, fun q hq => hk _ _ (h2 q hq), ownsMap_at h3 e⟩
/-- It is no row of cells. -/
theorem FilesAt.no_row (h : FilesAt w X b l) {cs : Array Value} {t : TypeId} {f : Nat × Nat} (e : w.heap[b]? = some (.cells cs t f)) : False := by
  obtain ⟨z, _, _, a, clock, hb, _⟩ := h
  rw [hb] at e
  cases e
theorem FilesAt.made (w : World) (X : Nat → Prop) : FilesAt (w.alloc (.map #[] 0)) X w.heap.size [] := ⟨[], rfl, by simp, World.ownsMap_made w _ _ _⟩
theorem FilesAt.look (h : FilesAt w X b l) (hn : n.length ≤ maxLen) :
    ∃ A m c, Cont w X (.slice A m c) ((l.get n).getD []) ∧ ∀ w', w'.heap[b]? = w.heap[b]? → (Instr.lookup 56 (.map (some b)) (encStr n) false).run Try.prog w' = .ok (.slice A m c) w' := by
  obtain ⟨z, rfl, h2, h3⟩ := h
  have hl : ∀ w', w'.heap[b]? = w.heap[b]? → ∃ v ps, (Instr.lookup 56 (.map (some b)) (encStr n) false).run Try.prog w' = .ok v w' ∧ R1 v = some ((DataW.map (z.map zent)).atKey (.string n) (.held (.slice none 0 0)), ps) := fun w' e =>
    (ownsMap_at h3 e).lookup keyed Try.underlying56 (Try.zeroValue31 w') rfl (key_of hn)
  rw [zent_find] at hl
  rw [zget]
  cases hf : z.find? (fun q => q.2.1 == n) with
  | none =>
    rw [hf] at hl
    refine ⟨none, 0, 0, Cont.nil _ _, fun w' e => ?_⟩
    obtain ⟨v, ps, hr, hR⟩ := hl w' e
    obtain ⟨q, rfl, e2⟩ := R1_inv hR
    simp only [Prod.mk.injEq, DataW.held.injEq] at e2
    replace e2 := e2.1
    exact hr.trans (congrArg (fun u => Result.ok u w') e2.symm)
  | some q =>
    rw [hf] at hl
    have hq := h2 q (List.mem_of_find?_eq_some hf)
    obtain ⟨A, m, c, e0, _⟩ := id hq
    refine ⟨A, m, c, e0 ▸ hq, fun w' e => ?_⟩
    obtain ⟨v, ps, hr, hR⟩ := hl w' e
    obtain ⟨q', rfl, e2⟩ := R1_inv hR
    simp only [Prod.mk.injEq, DataW.held.injEq] at e2
    replace e2 := e2.1
    exact hr.trans (congrArg (fun u => Result.ok u w') (e2.symm.trans e0))
theorem FilesAt.look_ok (h : FilesAt w X b l) (hn : n.length ≤ maxLen) :
    ∃ A m c, Cont w X (.slice A m c) ((l.get n).getD []) ∧ ∀ w', w'.heap[b]? = w.heap[b]? → (Instr.lookup 56 (.map (some b)) (encStr n) true).run Try.prog w' = .ok (.tuple #[.slice A m c, .bool (l.get n).isSome]) w' := by
  obtain ⟨z, rfl, h2, h3⟩ := h
  have hl : ∀ w', w'.heap[b]? = w.heap[b]? → ∃ v ps, (Instr.lookup 56 (.map (some b)) (encStr n) true).run Try.prog w' = .ok (.tuple #[v, .bool (Maps.has (.map (z.map zent)) (.string n))]) w' ∧ R1 v = some ((DataW.map (z.map zent)).atKey (.string n) (.held (.slice none 0 0)), ps) := fun w' e =>
    (ownsMap_at h3 e).look_ok keyed Try.underlying56 (Try.zeroValue31 w') rfl (key_of hn)
  rw [zent_find, zhas] at hl
  rw [zget] at hl ⊢
  cases hf : z.find? (fun q => q.2.1 == n) with
  | none =>
    rw [hf] at hl
    refine ⟨none, 0, 0, Cont.nil _ _, fun w' e => ?_⟩
    obtain ⟨v, ps, hr, hR⟩ := hl w' e
    obtain ⟨q, rfl, e2⟩ := R1_inv hR
    simp only [Prod.mk.injEq, DataW.held.injEq] at e2
    replace e2 := e2.1
    exact hr.trans (congrArg (fun u => Result.ok (Value.tuple #[u, .bool _]) w') e2.symm)
  | some q =>
    rw [hf] at hl
    have hq := h2 q (List.mem_of_find?_eq_some hf)
    obtain ⟨A, m, c, e0, _⟩ := id hq
    refine ⟨A, m, c, e0 ▸ hq, fun w' e => ?_⟩
    obtain ⟨v, ps, hr, hR⟩ := hl w' e
    obtain ⟨q', rfl, e2⟩ := R1_inv hR
    simp only [Prod.mk.injEq, DataW.held.injEq] at e2
    replace e2 := e2.1
    exact hr.trans (congrArg (fun u => Result.ok (Value.tuple #[u, .bool _]) w') (e2.symm.trans e0))
/-- A file is laid in. -/
theorem FilesAt.put (h : FilesAt w X b l) {v : Value} {x : Str} (hv : Cont w X v x) {m : Nat} (hm : w'.ownsMap Try.prog 9 R1 b m ((DataW.map ((Classical.choose h).map zent)).put (.string n) (.held v)))
    (hk : ∀ v xs, Cont w X v xs → Cont w' X v xs) : FilesAt w' X b (l.put n x) := by
  have h1 := (Classical.choose_spec h).1
  have h2 := (Classical.choose_spec h).2.1
  generalize Classical.choose h = z at h1 h2 hm
  rw [zput z n x v] at hm
  have h4 := zput_fst z n x v
  rw [h1] at h4
  refine ⟨_, h4, fun q hq => ?_, ?_⟩
  · rcases mem_insBy.1 hq with rfl | hq
    · exact hk _ _ hv
    · exact hk _ _ (h2 q (List.mem_filter.1 hq).1)
  · have := ownsMap_tight hm
    rw [← h4]
    simpa using this
theorem FilesAt.drop (h : FilesAt w X b l) {m : Nat} (hm : w'.ownsMap Try.prog 9 R1 b m ((DataW.map ((Classical.choose h).map zent)).del (.string n)))
    (hk : ∀ v xs, Cont w X v xs → Cont w' X v xs) : FilesAt w' X b (l.del n) := by
  have h1 := (Classical.choose_spec h).1
  have h2 := (Classical.choose_spec h).2.1
  generalize Classical.choose h = z at h1 h2 hm
  rw [zdel z n] at hm
  have h4 := zdel_fst z n
  rw [h1] at h4
  refine ⟨_, h4, fun q hq => hk _ _ (h2 q (List.mem_filter.1 hq).1), ?_⟩
  have := ownsMap_tight hm
  rw [← h4]
  simpa using this
theorem FilesAt.owns (h : FilesAt w X b l) : w.ownsMap Try.prog 9 R1 b l.length (.map ((Classical.choose h).map zent)) := (Classical.choose_spec h).2.2
/-- What a range hands out is a file. -/
theorem FilesAt.entry (h : FilesAt w X b l) {kl : Lit} {v : Value} (hat : ∀ d, (DataW.map ((Classical.choose h).map zent)).atKey kl d = .held v) (hk : WideAt.IsKeyLit kl) : ∃ m x, kl = .string m ∧ (m, x) ∈ l ∧ Cont w X v x := by
  have h1 := (Classical.choose_spec h).1
  have h2 := (Classical.choose_spec h).2.1
  generalize Classical.choose h = z at h1 h2 hat
  have hh := Maps.has_true_of_atKey hat
  obtain ⟨p, hp, hs⟩ := List.any_eq_true.1 hh
  obtain ⟨q, hq, rfl⟩ := List.mem_map.1 hp
  have e := WideAt.sameKey_eq hs
  subst e
  have h3 := hat (.lit (.bool true))
  show ∃ m x, Lit.string q.2.1 = Lit.string m ∧ _
  have h4 : (DataW.map (z.map zent)).atKey (.string q.2.1) (.lit (.bool true)) = .held v := h3
  rw [zent_find] at h4
  cases hf : z.find? (fun r => r.2.1 == q.2.1) with
  | none => rw [hf] at h4; cases h4
  | some r =>
    rw [hf] at h4
    injection h4 with h4
    have hr := List.mem_of_find?_eq_some hf
    have e2 : r.2.1 = q.2.1 := by simpa using List.find?_some hf
    refine ⟨q.2.1, r.2.2, rfl, ?_, h4 ▸ h2 r hr⟩
    rw [← h1, ← e2]
    exact List.mem_map.2 ⟨r, hr, rfl⟩
theorem FilesAt.size (h : FilesAt w X b l) : Maps.size (DataW.map ((Classical.choose h).map zent)) = l.length := by
  have h1 := (Classical.choose_spec h).1
  show ((Classical.choose h).map zent).length = _
  rw [List.length_map, ← List.length_map (f := (·.2)), h1]
end

/-! ### A row of changes -/
def chCells (q : Value × Ch) : List Value := [encStr q.2.name, q.1, .bool q.2.gone]
def SinceAt (w : World) (X : Nat → Prop) (A : Option Addr) (c : Nat) (l : List Ch) : Prop :=
  ∃ z : List (Value × Ch), z.map (·.2) = l ∧ (∀ q ∈ z, Cont w X q.1 q.2.b) ∧ Own w 0 63 3 A l.length c (z.flatMap chCells)
section
variable {X X' Y : Nat → Prop} {w w' : World} {A : Option Addr} {c : Nat} {l : List Ch}
theorem SinceAt.nil (w : World) (X : Nat → Prop) : SinceAt w X none 0 [] := ⟨[], rfl, by simp, Own.nil _ _ _ _⟩
theorem SinceAt.keep (h : SinceAt w X A c l) {row : Option Nat} (hg : w.grownBy w' row) (hne : ∀ g, blkOf A = some g → row ≠ some g) (hk : ∀ v xs, Cont w X v xs → Cont w' X' v xs) : SinceAt w' X' A c l := by
  obtain ⟨z, h1, h2, h3⟩ := h
  exact ⟨z, h1, fun q hq => hk _ _ (h2 q hq), h3.keep hg hne⟩
theorem SinceAt.tr (h : SinceAt w X A c l) (t : Tr Y w w') (hne : ∀ g, blkOf A = some g → ¬ Y g) (hk : ∀ v xs, Cont w X v xs → Cont w' X' v xs) : SinceAt w' X' A c l := by
  obtain ⟨z, h1, h2, h3⟩ := h
  refine ⟨z, h1, fun q hq => hk _ _ (h2 q hq), h3.1, ?_⟩
  rcases h3.2 with h0 | ⟨g, rest, hA, hb, hr, r⟩
  · exact .inl h0
  · exact .inr ⟨g, rest, hA, hb, t.row hr (hne g (by rw [hA]; rfl)), r⟩
theorem SinceAt.no_bytes (h : SinceAt w X A c l) {g : Nat} (hg : blkOf A = some g) {cs : Array Value} {f : Nat × Nat} (e : w.heap[g]? = some (.cells cs 5 f)) : False := by
  obtain ⟨z, h1, h2, h3⟩ := h
  rcases h3.2 with ⟨h0, _⟩ | ⟨g', rest, rfl, hb, hr, r⟩
  · rw [h0] at hg; cases hg
  · injection hg with hg
    subst hg
    unfold Row at hr
    rw [e] at hr
    injection hr with hr
    injection hr with _ hr
    cases hr
theorem flat_at (z : List (Value × Ch)) {i : Nat} {q : Value × Ch} (h : z[i]? = some q) : (z.flatMap chCells)[i * 3]? = some (encStr q.2.name) ∧ (z.flatMap chCells)[i * 3 + 1]? = some q.1 ∧ (z.flatMap chCells)[i * 3 + 2]? = some (.bool q.2.gone) := by
  induction z generalizing i with
  | nil => simp at h
  | cons x r ih =>
    cases i with
    | zero =>
      have : x = q := by simpa using h
      subst this
      exact ⟨rfl, rfl, rfl⟩
    | succ i =>
      have := ih (i := i) (by simpa using h)
      have e : ∀ k, ((x :: r).flatMap chCells)[(i + 1) * 3 + k]? = (r.flatMap chCells)[i * 3 + k]? := fun k => by
        rw [List.flatMap_cons, List.getElem?_append_right (by simp [chCells]; omega)]
        congr 1
        simp [chCells]
        omega
      exact ⟨(e 0).trans this.1, (e 1).trans this.2.1, (e 2).trans this.2.2⟩
theorem SinceAt.blk (h : SinceAt w X A c l) : ∀ g, blkOf A = some g → g < w.heap.size := by
  obtain ⟨z, h1, h2, h3⟩ := h
  exact fun g hg => (h3.blk g hg).2
theorem SinceAt.at_ (h : SinceAt w X A c l) {i : Nat} (hi : i < l.length) : ∃ g v, A = some ⟨g, 0, none⟩ ∧ Cont w X v l[i].b ∧
    w.cell? ⟨g, i * 3, none⟩ = some (encStr l[i].name) ∧ w.cell? ⟨g, i * 3 + 1, none⟩ = some v ∧ w.cell? ⟨g, i * 3 + 2, none⟩ = some (.bool l[i].gone) := by
  obtain ⟨z, rfl, h2, h3⟩ := h
  have hi' : i < z.length := by simpa using hi
  have hz : z[i]? = some z[i] := List.getElem?_eq_getElem hi'
  obtain ⟨e1, e2, e3⟩ := flat_at z hz
  have hlen : (z.flatMap chCells).length = z.length * 3 := by simpa using h3.1
  rcases h3.2 with ⟨_, h0, _⟩ | ⟨g, rest, rfl, hb, hr, r⟩
  · simp at h0
    subst h0
    simp at hi'
  · refine ⟨g, z[i].1, rfl, ?_, ?_, ?_, ?_⟩
    · simpa using h2 z[i] (List.getElem_mem hi')
    · rw [hr.cell, List.getElem?_append_left (by omega), e1]; simp
    · rw [hr.cell, List.getElem?_append_left (by omega), e2]
    · rw [hr.cell, List.getElem?_append_left (by omega), e3]; simp
end

/-! ### The object -/
def vfsCells (bn bk : Nat) (A : Option Addr) (c : Nat) (s : V) : List Value :=
  [.map (some bn), .map (some bk), .slice A s.since.length c, .int .i64 s.room, .int .i64 s.stop, .int .i64 s.ops, .bool s.dead]
structure Mem (w : World) (X : Nat → Prop) (p bn bk : Nat) (A : Option Addr) (c : Nat) (s : V) : Prop where
  row : Row w p 59 (vfsCells bn bk A c s)
  now : FilesAt w X bn s.now
  kept : FilesAt w X bk s.kept
  since : SinceAt w X A c s.since
  ne : bn ≠ bk
  xp : X p
  xn : X bn
  xk : X bk
  xs : ∀ g, blkOf A = some g → X g
  lt : ∀ i, X i → i < w.heap.size
def At (w : World) (X : Nat → Prop) (p : Nat) (s : V) : Prop := s.Ok ∧ ∃ bn bk A c, Mem w X p bn bk A c s
/-- What a call leaves: of the old blocks those of the lot alone may have turned; the lot has grown by new blocks alone. -/
structure Mv (w : World) (X : Nat → Prop) (w' : World) (X' : Nat → Prop) : Prop where
  tr : Tr X w w'
  more : ∀ i, X i → X' i
  new : ∀ i, X' i → X i ∨ w.heap.size ≤ i
section
variable {X X' X'' Y : Nat → Prop} {w w' w'' : World} {p bn bk c : Nat} {A : Option Addr} {s : V}
theorem Mv.rfl' (w : World) (X : Nat → Prop) : Mv w X w X := ⟨Tr.rfl' _ _, fun _ h => h, fun _ h => .inl h⟩
theorem Mv.trans (h : Mv w X w' X') (k : Mv w' X' w'' X'') : Mv w X w'' X'' :=
  ⟨h.tr.trans k.tr (fun i hi hx => by
    rcases h.new i hx with h1 | h1
    · exact h1
    · omega), fun i hx => k.more i (h.more i hx), fun i hx => by
    rcases k.new i hx with h1 | h1
    · exact h.new i h1
    · have := h.tr.size
      exact .inr (by omega)⟩
theorem Mv.of_gr (h : Gr w w') (X : Nat → Prop) : Mv w X w' X := ⟨Tr.of_gr h, fun _ h => h, fun _ h => .inl h⟩
/-- Outside of the lot the world has turned. -/
theorem Mem.frame (h : Mem w X p bn bk A c s) (t : Tr Y w w') (hd : ∀ i, Y i → X i → False) : Mem w' X p bn bk A c s := by
  have hk : ∀ v xs, Cont w X v xs → Cont w' X v xs := fun v xs hc => hc.tr t (fun i _ _ hy hx _ => hd i hy hx) (fun _ h => h)
  exact ⟨t.row h.row (fun hy => hd _ hy h.xp), h.now.keep (t.block _ h.now.lt (fun hy => hd _ hy h.xn)) hk, h.kept.keep (t.block _ h.kept.lt (fun hy => hd _ hy h.xk)) hk,
    h.since.tr t (fun g hg hy => hd _ hy (h.xs g hg)) hk, h.ne, h.xp, h.xn, h.xk, h.xs, fun i hx => Nat.lt_of_lt_of_le (h.lt i hx) t.size⟩
theorem At.frame (h : At w X p s) (t : Tr Y w w') (hd : ∀ i, Y i → X i → False) : At w' X p s := by
  obtain ⟨hok, bn, bk, A, c, h⟩ := h
  exact ⟨hok, bn, bk, A, c, h.frame t hd⟩
theorem At.gr (h : At w X p s) (t : Gr w w') : At w' X p s := h.frame (Tr.of_gr (X := fun _ => False) t) (fun _ h _ => h)
theorem Mem.gr (h : Mem w X p bn bk A c s) (t : Gr w w') : Mem w' X p bn bk A c s := h.frame (Tr.of_gr (X := fun _ => False) t) (fun _ h _ => h)
theorem Mem.no_bytes_p (h : Mem w X p bn bk A c s) {cs : Array Value} {f : Nat × Nat} (e : w.heap[p]? = some (.cells cs 5 f)) : False := by
  have hr := h.row
  unfold Row at hr
  rw [e] at hr
  injection hr with hr
  injection hr with _ hr
  cases hr
theorem Mem.p_ne_now (h : Mem w X p bn bk A c s) : p ≠ bn := fun e => h.now.no_row (e ▸ h.row)
theorem Mem.p_ne_kept (h : Mem w X p bn bk A c s) : p ≠ bk := fun e => h.kept.no_row (e ▸ h.row)
theorem Mem.since_row (h : Mem w X p bn bk A c s) {g : Nat} (hg : blkOf A = some g) : ∃ xs, Row w g 63 xs := by
  obtain ⟨z, h1, h2, h3⟩ := h.since
  rcases h3.2 with ⟨h0, _⟩ | ⟨g', rest, rfl, hb, hr, r⟩
  · rw [h0] at hg; cases hg
  · injection hg with hg
    subst hg
    exact ⟨_, hr⟩
theorem Mem.p_ne_since (h : Mem w X p bn bk A c s) {g : Nat} (hg : blkOf A = some g) : p ≠ g := by
  obtain ⟨xs, hr⟩ := h.since_row hg
  exact h.row.ne hr (by decide)
theorem Mem.now_ne_since (h : Mem w X p bn bk A c s) {g : Nat} (hg : blkOf A = some g) : bn ≠ g := by
  obtain ⟨xs, hr⟩ := h.since_row hg
  exact fun e => h.now.no_row (e ▸ hr)
theorem Mem.kept_ne_since (h : Mem w X p bn bk A c s) {g : Nat} (hg : blkOf A = some g) : bk ≠ g := by
  obtain ⟨xs, hr⟩ := h.since_row hg
  exact fun e => h.kept.no_row (e ▸ hr)
/-- The object's own cells have turned, and nothing else: another state of the same maps and changes. -/
theorem Mem.own_cells (h : Mem w X p bn bk A c s) {s' : V} (hr : Row w' p 59 (vfsCells bn bk A c s')) (hg : w.grownBy w' (some p)) (h1 : s'.now = s.now) (h2 : s'.kept = s.kept) (h3 : s'.since = s.since) : Mem w' X p bn bk A c s' := by
  have hk : ∀ v xs, Cont w X v xs → Cont w' X v xs := fun v xs hc => hc.tr (Tr.of_grown (X := fun i => i = p) hg (fun g e => by injection e with e; exact e.symm)) (fun i _ _ hy _ e => h.no_bytes_p (hy ▸ e)) (fun _ h => h)
  refine ⟨hr, h1 ▸ h.now.keep (hg.block _ h.now.lt ?_) hk, h2 ▸ h.kept.keep (hg.block _ h.kept.lt ?_) hk, h3 ▸ h.since.keep hg ?_ hk, h.ne, h.xp, h.xn, h.xk, h.xs, fun i hx => Nat.lt_of_lt_of_le (h.lt i hx) hg.size⟩
  · intro e; injection e with e; exact h.p_ne_now e.symm
  · intro e; injection e with e; exact h.p_ne_kept e.symm
  · intro g hg2 e; injection e with e; exact h.p_ne_since hg2 e
theorem Mem.contOf (h : Mem w X p bn bk A c s) {row : Option Nat} (hg : w.grownBy w' row) (hr : ∀ g, row = some g → g = p ∨ g = bn ∨ g = bk ∨ blkOf A = some g) : ∀ v xs, Cont w X v xs → Cont w' X v xs := fun v xs hc =>
  hc.tr (Tr.of_grown (X := fun i => row = some i) hg (fun g e => e)) (fun i _ _ hy _ e => by
    rcases hr i hy with rfl | rfl | rfl | h1
    · exact h.no_bytes_p e
    · exact h.now.no_row e
    · exact h.kept.no_row e
    · exact h.since.no_bytes h1 e) (fun _ h => h)
/-- The map of the files as they are has turned. -/
theorem Mem.now_turned (h : Mem w X p bn bk A c s) {l : Files} (hf : FilesAt w' X bn l) (hg : w.grownBy w' (some bn)) : Mem w' X p bn bk A c { s with now := l } := by
  have hk := h.contOf hg (fun g e => by injection e with e; exact .inr (.inl e.symm))
  refine ⟨(hg.block _ h.row.lt ?_).trans h.row, hf, h.kept.keep (hg.block _ h.kept.lt ?_) hk, h.since.keep hg ?_ hk, h.ne, h.xp, h.xn, h.xk, h.xs, fun i hx => Nat.lt_of_lt_of_le (h.lt i hx) hg.size⟩
  · intro e; injection e with e; exact h.p_ne_now e
  · intro e; injection e with e; exact h.ne e.symm
  · intro g hg2 e; injection e with e; exact h.now_ne_since hg2 e
theorem Mem.kept_turned (h : Mem w X p bn bk A c s) {l : Files} (hf : FilesAt w' X bk l) (hg : w.grownBy w' (some bk)) : Mem w' X p bn bk A c { s with kept := l } := by
  have hk := h.contOf hg (fun g e => by injection e with e; exact .inr (.inr (.inl e.symm)))
  refine ⟨(hg.block _ h.row.lt ?_).trans h.row, h.now.keep (hg.block _ h.now.lt ?_) hk, hf, h.since.keep hg ?_ hk, h.ne, h.xp, h.xn, h.xk, h.xs, fun i hx => Nat.lt_of_lt_of_le (h.lt i hx) hg.size⟩
  · intro e; injection e with e; exact h.p_ne_kept e
  · intro e; injection e with e; exact h.ne e
  · intro g hg2 e; injection e with e; exact h.kept_ne_since hg2 e
/-- The lot is said to be greater. -/
theorem Mem.more (h : Mem w X p bn bk A c s) (hX : ∀ i, X i → X' i) (hl : ∀ i, X' i → i < w.heap.size) : Mem w X' p bn bk A c s := by
  have hk : ∀ v xs, Cont w X v xs → Cont w X' v xs := fun v xs hc => hc.tr (Tr.rfl' (fun _ => False) w) (fun _ _ _ hf => hf.elim) hX
  exact ⟨h.row, h.now.keep rfl hk, h.kept.keep rfl hk, h.since.keep (only_refl w none) (fun _ _ => by simp) hk, h.ne, hX _ h.xp, hX _ h.xn, hX _ h.xk, fun g hg => hX _ (h.xs g hg), hl⟩
/-- Another row of changes. -/
theorem Mem.set_since (h : Mem w X p bn bk A c s) {A' : Option Addr} {c' : Nat} {l : List Ch} (hs : SinceAt w X A' c' l) (hx : ∀ g, blkOf A' = some g → X g) :
    Mem (w.setCell ⟨p, 2, none⟩ (.slice A' l.length c')) X p bn bk A' c' { s with since := l } := by
  have hg := only_set w p 2 (.slice A' l.length c')
  have hk := h.contOf hg (fun g e => by injection e with e; exact .inl e.symm)
  refine ⟨h.row.set 2 _, h.now.keep (hg.block _ h.now.lt ?_) hk, h.kept.keep (hg.block _ h.kept.lt ?_) hk, hs.keep hg ?_ hk, h.ne, h.xp, h.xn, h.xk, hx, fun i hx => Nat.lt_of_lt_of_le (h.lt i hx) hg.size⟩
  · intro e; injection e with e; exact h.p_ne_now e.symm
  · intro e; injection e with e; exact h.p_ne_kept e.symm
  · intro g hg2 e
    injection e with e
    obtain ⟨z, h1, h2, h3⟩ := hs
    rcases h3.2 with ⟨h0, _⟩ | ⟨g', rest, rfl, hb, hr, r⟩
    · rw [h0] at hg2; cases hg2
    · injection hg2 with hg2
      subst hg2
      exact h.row.ne hr (by decide) e
end
end Go.Proofs.Ytopellbmmkflgaa
