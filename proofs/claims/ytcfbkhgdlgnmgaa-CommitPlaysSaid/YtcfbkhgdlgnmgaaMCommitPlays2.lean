/- Texts on the way to 'CommitPlays', one behind the other (part 2). -/
import Derived.Test.YtcfbkhgdlgnmgaaMCommitPlays1
import Derived.Test.YtcfbkhgdlgnmgaaChecked
import Derived.ProofKit
import Derived.OpenShut
import Derived.ShutString
import Derived.ChangeOld
import Derived.SliceStrings
import Derived.Deep.Slices
import Derived.Maps.OwnOps
import Derived.Maps.OwnSet
import Derived.Maps.RangeWalk
import Derived.Maps.Ext
import Derived.Sort.EncStr
import Derived.Test.YtcfbkhgdlgnmgaaProg
import Derived.Test.YtcfbkhgdlgnmgaaShelf
import Derived.Sort.OwnSorted
import Derived.Sort.Grow
import Derived.Lib.OwnBridge
import Derived.Handy
import Derived.Shelf.AbstractIn
import Derived.WalkKit
import Derived.Orders
import Derived.KernelRfl
import Derived.ScopeJumps
import Derived.WalkMore
import Derived.Deep.QuietTactic
import Derived.BigQuiet
set_option linter.unusedVariables false
set_option linter.unusedSimpArgs false
namespace Go.Proofs.Ytcfbkhgdlgnmgaa
open Go.RowKit Cd
abbrev Fl := Str × Str
def jn : Str := [106, 111, 117, 114, 110, 97, 108]
def mk : Str := [109, 97, 114, 107]
def nameBad (n : Str) : Bool := decide (n = [] ∨ 20 < n.length ∨ n = jn ∨ n = mk)
def mayGo : List Str → List Fl → Int
  | _, [] => 0
  | seen, (n, b) :: l => if nameBad n = true then 12 else if n ∈ seen then 7 else if 8000 < b.length then 5 else mayGo (seen ++ [n]) l
def mayM (l : List Fl) : Int := if l.length < 1 ∨ 8 < l.length then 1 else mayGo [] l
def textB (s : Str) : Str := le (min s.length 65535) 2 ++ s.take 65535
def bytesM (l : List Fl) : Str := u8 (l.length : Int) :: l.flatMap fun f => textB f.1 ++ textB f.2
def readGo : Nat → Rs → List Fl → List Fl × Rs
  | 0, r, l => (l, r)
  | k + 1, r, l => readGo k (textS (textS r).2).2 (l ++ [((textS r).1, (textS (textS r).2).1)])
def readM (b : Str) : List Fl × Int :=
  let r0 := byteS (b, 0)
  let o := readGo r0.1.toNat r0.2 []
  if endS o.2 ≠ 0 ∨ mayM o.1 ≠ 0 then ([], 10) else (o.1, 0)
def growM (v : V) (l : List Fl) : Nat := (l.map fun f => f.2.length - ((v.now.get f.1).getD []).length).sum
def fitsM (v : V) (l : List Fl) (b : Str) : Int := if v.dead then 15 else if v.room < v.now.used + b.length + growM v l then 14 else 0
def putM (v : V) (n b : Str) : V × Int := if (v.write n b).2 ≠ 0 then v.write n b else (v.write n b).1.flush
def awayM (v : V) (n : Str) : V × Int := if (v.remove n).2 ≠ 0 then v.remove n else (v.remove n).1.flush
def writeAll : V → List Fl → V × Int
  | v, [] => (v, 0)
  | v, f :: l => if (v.write f.1 f.2).2 ≠ 0 then v.write f.1 f.2 else writeAll (v.write f.1 f.2).1 l
def V.thn (r : V × Int) (f : V → V × Int) : V × Int := if r.2 ≠ 0 then r else f r.1
def writeM (v : V) (l : List Fl) : V × Int := V.thn (V.thn (V.thn (writeAll v l) V.flush) (awayM · mk)) (awayM · jn)
def commitM (v : V) (l : List Fl) : V × Int :=
  if mayM l ≠ 0 then (v, mayM l) else if fitsM v l (bytesM l) ≠ 0 then (v, fitsM v l (bytesM l))
  else V.thn (V.thn (putM v jn (bytesM l)) (putM · mk [])) (writeM · l)
def recoverM (v : V) : V × Int :=
  if v.dead then (v, 15) else
    match v.now.get mk, v.now.get jn with
    | none, none => (v, 0)
    | none, some _ => awayM v jn
    | some _, none => (v, 10)
    | some _, some b => if (readM b).2 ≠ 0 then (v, (readM b).2) else writeM v (readM b).1
theorem textB_small {s : Str} (h : s.length ≤ 65535) : textB s = le s.length 2 ++ s := by
  unfold textB
  rw [Nat.min_eq_left h, List.take_of_length_le h]
theorem mayGo_zero : ∀ {l : List Fl} {seen : List Str}, mayGo seen l = 0 → ∀ f ∈ l, nameBad f.1 = false ∧ f.2.length ≤ 8000
  | [], _, _, f, hf => by cases hf
  | (n, b) :: l, seen, h, f, hf => by
    unfold mayGo at h
    split at h
    · cases h
    · rename_i h1
      split at h
      · cases h
      · split at h
        · cases h
        · rename_i h3
          rcases List.mem_cons.1 hf with rfl | hf
          · exact ⟨by simpa using h1, Nat.le_of_not_lt h3⟩
          · exact mayGo_zero h f hf
theorem mayM_zero {l : List Fl} (h : mayM l = 0) : 1 ≤ l.length ∧ l.length ≤ 8 ∧ mayGo [] l = 0 := by
  unfold mayM at h
  split at h
  · cases h
  · exact ⟨by omega, by omega, h⟩
theorem mayGo_nodup : ∀ {l : List Fl} {seen : List Str}, mayGo seen l = 0 → (l.map (·.1)).Nodup ∧ ∀ f ∈ l, f.1 ∉ seen
  | [], _, _ => ⟨List.nodup_nil, fun f hf => by cases hf⟩
  | (n, b) :: l, seen, h => by
    unfold mayGo at h
    split at h
    · cases h
    · split at h
      · cases h
      · rename_i h2
        split at h
        · cases h
        · obtain ⟨h3, h4⟩ := mayGo_nodup h
          refine ⟨?_, fun f hf => ?_⟩
          · rw [List.map_cons, List.nodup_cons]
            refine ⟨fun hm => ?_, h3⟩
            obtain ⟨f, hf, e⟩ := List.mem_map.1 hm
            exact h4 f hf (by rw [e]; simp)
          · rcases List.mem_cons.1 hf with rfl | hf
            · exact h2
            · exact fun hm => h4 f hf (by simp [hm])
theorem nameBad_len {n : Str} (h : nameBad n = false) : n ≠ [] ∧ n.length ≤ 20 ∧ n ≠ jn ∧ n ≠ mk := by
  unfold nameBad at h
  have h := of_decide_eq_false h
  exact ⟨fun e => h (.inl e), Nat.le_of_not_lt fun e => h (.inr (.inl e)), fun e => h (.inr (.inr (.inl e))), fun e => h (.inr (.inr (.inr e)))⟩
theorem textB_length {s : Str} (h : s.length ≤ 65535) : (textB s).length = s.length + 2 := by
  rw [textB_small h, List.length_append, le_length]
  omega
end Go.Proofs.Ytcfbkhgdlgnmgaa
set_option linter.unusedVariables false
set_option linter.unusedSimpArgs false
namespace Go.Proofs.Ytcfbkhgdlgnmgaa
open Go.RowKit Go.ChangeShapes Go.WideShapes Go.ChangeAt
open Go.ChangeMaps (open_string shut_string)
def iv (n : Int) : Value := .int .i64 n
def sv (s : ByteArray) : Value := .string s
section
variable {H : Type} {enc : TypeId × Value → H} {P : Program} {w : World} {T E : TypeId} {a : Option Addr} {len cap : Nat} {d : DataW H} {p : List MemPlace}
theorem open_bytes (hT : P.underlying T = some (.slice E)) (hE : P.underlying E = some (.int .u8)) (hC : P.cellsOf E = 1) (h : DataW.Trod enc P w 0 (fun _ => true) true T (.slice a len cap) d p) :
    ∃ bs : List UInt8, Hid (bs.length = len) ∧ Rd w a (bs.map bv) ∧ len ≤ cap ∧ cap ≤ maxLen := by
  obtain ⟨fuel, hf⟩ := h
  rcases open_ints hT hE hC hf with ⟨hcs, _⟩ | ⟨x, l, c, zs, hcs, _, hl, hm, hz, _, hcell, hwz⟩
  · simp [Value.cells] at hcs
    obtain ⟨rfl, rfl, rfl⟩ := hcs
    exact ⟨[], Lib.hid rfl, Rd.nil _ _, Nat.le_refl _, by unfold maxLen; omega⟩
  · simp [Value.cells] at hcs
    obtain ⟨rfl, rfl, rfl⟩ := hcs
    have hzl : zs.length = cap := by simpa using hz
    refine ⟨(zs.take len).map fun z => UInt8.ofNat z.toNat, Lib.hid (by simp; omega), fun j u hu => ⟨x, rfl, ?_⟩, hl, hm⟩
    rw [List.map_map, List.getElem?_map] at hu
    obtain ⟨z, hzj, rfl⟩ := Option.map_eq_some_iff.1 hu
    rw [List.getElem?_take] at hzj
    split at hzj
    · rename_i hj
      have hjl : j < zs.length := by omega
      have hw := hwz z (List.mem_of_getElem? hzj)
      have hc := hcell j hjl
      have e : zs.getD j 0 = z := by simp [List.getD, hzj]
      rw [e] at hc
      rw [hc]
      have hb : 0 ≤ z ∧ z ≤ 255 := by
        simp [Lit.wf, IntKind.min, IntKind.max, IntKind.signed, IntKind.bits] at hw
        omega
      simp only [Function.comp, bv]
      congr 2
      simp
      omega
    · cases hzj
theorem open_nums (hT : P.underlying T = some (.slice E)) (hE : P.underlying E = some (.int .i64)) (hC : P.cellsOf E = 1) (h : DataW.Trod enc P w 0 (fun _ => true) true T (.slice a len cap) d p) :
    ∃ zs : List Int, Hid (zs.length = len) ∧ Rd w a (zs.map iv) ∧ (∀ z ∈ zs, -9223372036854775808 ≤ z ∧ z ≤ 9223372036854775807) ∧ len ≤ cap ∧ cap ≤ maxLen := by
  obtain ⟨fuel, hf⟩ := h
  rcases open_ints hT hE hC hf with ⟨hcs, _⟩ | ⟨x, l, c, zs, hcs, _, hl, hm, hz, _, hcell, hwz⟩
  · simp [Value.cells] at hcs
    obtain ⟨rfl, rfl, rfl⟩ := hcs
    exact ⟨[], Lib.hid rfl, Rd.nil _ _, by simp, Nat.le_refl _, by unfold maxLen; omega⟩
  · simp [Value.cells] at hcs
    obtain ⟨rfl, rfl, rfl⟩ := hcs
    have hzl : zs.length = cap := by simpa using hz
    refine ⟨zs.take len, Lib.hid (by simp; omega), fun j u hu => ⟨x, rfl, ?_⟩, fun z hz => ?_, hl, hm⟩
    · rw [List.getElem?_map] at hu
      obtain ⟨z, hzj, rfl⟩ := Option.map_eq_some_iff.1 hu
      rw [List.getElem?_take] at hzj
      split at hzj
      · rename_i hj
        have hjl : j < zs.length := by omega
        have hc := hcell j hjl
        have e : zs.getD j 0 = z := by simp [List.getD, hzj]
        rw [e] at hc
        exact hc
      · cases hzj
    · have hw := hwz z (List.mem_of_mem_take hz)
      simp [Lit.wf, IntKind.min, IntKind.max, IntKind.signed, IntKind.bits] at hw
      omega
theorem int_bounds {n : Int} (h : (Lit.int .i64 n).wf = true) : -9223372036854775808 ≤ n ∧ n ≤ 9223372036854775807 := by
  simp [Lit.wf, IntKind.min, IntKind.max, IntKind.signed, IntKind.bits] at h
  omega
end
end Go.Proofs.Ytcfbkhgdlgnmgaa
set_option linter.unusedVariables false
set_option linter.unusedSimpArgs false
namespace Go.Proofs.Ytcfbkhgdlgnmgaa
open Go.RowKit Go.ChangeShapes Go.WideShapes Go.ChangeAt Go.Deep
structure Rw where
  A : Option Addr
  n : Nat
  c : Nat
  b : List UInt8
def Rw.val (q : Rw) : Value := .slice q.A q.n q.c
structure Rw.Ok (w : World) (q : Rw) : Prop where
  len : Hid (q.b.length = q.n)
  rd : Rd w q.A (q.b.map bv)
  le : q.n ≤ q.c
  lec : q.c ≤ maxLen
instance : Inhabited Rw := ⟨⟨none, 0, 0, []⟩⟩
section
variable {H : Type} {enc : TypeId × Value → H} {P : Program} {w : World} {T E Q : TypeId} {a : Option Addr} {len cap : Nat} {d : DataW H} {p : List MemPlace}
theorem open_bytes_cell {fuel : Nat} {v : Value} {x : DataW H × List MemPlace} (hE : P.underlying E = some (.slice Q)) (hQ : P.underlying Q = some (.int .u8)) (cQ : P.cellsOf Q = 1)
    (h : DataW.trod enc P w 0 (fun _ => true) true fuel E [v] = some x) : ∃ q : Rw, v = q.val ∧ q.Ok w := by
  have key : ∀ (A : Option Addr) (n c : Nat), v = .slice A n c → ∃ q : Rw, v = q.val ∧ q.Ok w := fun A n c e => by
    subst e
    obtain ⟨bs, h1, h2, h3, h4⟩ := open_bytes (d := x.1) (p := x.2) hE hQ cQ ⟨fuel, by simpa [Value.cells] using h⟩
    exact ⟨⟨A, n, c, bs⟩, rfl, h1, h2, h3, h4⟩
  rcases open_slice hE h with ⟨hcs, _⟩ | ⟨a, l, c, m, k, D, Pl, hcs, _⟩
  · exact key none 0 0 (by simpa using hcs)
  · exact key _ _ _ (by simpa using hcs)
end
end Go.Proofs.Ytcfbkhgdlgnmgaa
set_option linter.unusedVariables false
set_option linter.unusedSimpArgs false
namespace Go.Proofs.Ytcfbkhgdlgnmgaa
open Go.RowKit Go.Maps Go.Sort
structure Tr (X : Nat → Prop) (w w' : World) : Prop where
  os : w'.os = w.os
  tape : w'.tape = w.tape
  output : w'.output = w.output
  size : w.heap.size ≤ w'.heap.size
  block : ∀ i, i < w.heap.size → ¬ X i → w'.heap[i]? = w.heap[i]?
section
variable {X Y Z : Nat → Prop} {w w' w'' : World}
theorem Tr.rfl' (X : Nat → Prop) (w : World) : Tr X w w := ⟨rfl, rfl, rfl, Nat.le_refl _, fun _ _ _ => rfl⟩
theorem Tr.of_grown {row : Option Nat} (h : w.grownBy w' row) (hr : ∀ g, row = some g → X g) : Tr X w w' := ⟨h.os, h.tape, h.output, h.size, fun i hi hX => h.block i hi (fun e => hX (hr i e.symm))⟩
theorem Tr.of_gr (h : Gr w w') : Tr X w w' := ⟨h.os, h.tape, h.output, h.size, fun i hi _ => h.block i hi⟩
theorem Tr.trans (h : Tr X w w') (k : Tr Y w' w'') (hY : ∀ i, i < w.heap.size → Y i → X i) : Tr X w w'' :=
  ⟨k.os.trans h.os, k.tape.trans h.tape, k.output.trans h.output, Nat.le_trans h.size k.size, fun i hi hX => (k.block i (Nat.lt_of_lt_of_le hi h.size) (fun hy => hX (hY i hi hy))).trans (h.block i hi hX)⟩
theorem Tr.mono (h : Tr X w w') (hY : ∀ i, i < w.heap.size → X i → Y i) : Tr Y w w' := ⟨h.os, h.tape, h.output, h.size, fun i hi hX => h.block i hi (fun hx => hX (hY i hi hx))⟩
theorem Tr.below {B : Nat} (h : Tr X w w') (hB : B ≤ w.heap.size) (hX : ∀ i, X i → B ≤ i) : Below B w w' :=
  ⟨h.os, h.tape, h.output, h.size, fun i hi => h.block i (by omega) (fun hx => by have := hX i hx; omega)⟩
theorem Tr.row {g : Nat} {t : TypeId} {xs : List Value} (h : Tr X w w') (hr : Row w g t xs) (hX : ¬ X g) : Row w' g t xs := (h.block g hr.lt hX).trans hr
theorem Tr.rd {A : Option Addr} {xs : List Value} (h : Tr X w w') (hr : Rd w A xs) (hX : ∀ ad, A = some ad → ¬ X ad.block) : Rd w' A xs := fun j u hu => by
  obtain ⟨ad, e, hc⟩ := hr j u hu
  refine ⟨ad, e, ?_⟩
  have hlt := World.block_lt_of_cell? w _ hc
  unfold World.cell? at hc ⊢
  rw [h.block _ hlt (by rw [block_of_add]; exact hX ad e)]
  exact hc
end
def RdX (w : World) (X : Nat → Prop) (A : Option Addr) (xs : List Value) : Prop :=
  ∀ j u, xs[j]? = some u → ∃ ad cs f, A = some ad ∧ w.cell? (ad.add j) = some u ∧ X ad.block ∧ w.heap[ad.block]? = some (.cells cs 5 f)
def Cont (w : World) (X : Nat → Prop) (v : Value) (b : Str) : Prop := ∃ A n c, v = .slice A n c ∧ b.length = n ∧ n ≤ c ∧ c ≤ maxLen ∧ RdX w X A (b.map bv)
section
variable {X X' Y : Nat → Prop} {w w' : World} {A : Option Addr} {xs : List Value} {v : Value} {b : Str}
theorem RdX.rd (h : RdX w X A xs) : Rd w A xs := fun j u hu => by
  obtain ⟨ad, _, _, e, hc, _⟩ := h j u hu
  exact ⟨ad, e, hc⟩
theorem RdX.tr (h : RdX w X A xs) (t : Tr Y w w') (hd : ∀ i cs f, Y i → X i → w.heap[i]? = some (.cells cs 5 f) → False) (hX : ∀ i, X i → X' i) : RdX w' X' A xs := fun j u hu => by
  obtain ⟨ad, cs, f, e, hc, hx, hh⟩ := h j u hu
  have hY : ¬ Y ad.block := fun hy => hd _ _ _ hy hx hh
  have hlt : ad.block < w.heap.size := (Array.getElem?_eq_some_iff.1 hh).1
  have hb := t.block _ hlt hY
  refine ⟨ad, cs, f, e, ?_, hX _ hx, hb.trans hh⟩
  unfold World.cell? at hc ⊢
  rw [block_of_add] at hc ⊢
  rw [hb]
  exact hc
theorem Cont.tr (h : Cont w X v b) (t : Tr Y w w') (hd : ∀ i cs f, Y i → X i → w.heap[i]? = some (.cells cs 5 f) → False) (hX : ∀ i, X i → X' i) : Cont w' X' v b := by
  obtain ⟨A, n, c, e, h1, h2, h3, h4⟩ := h
  exact ⟨A, n, c, e, h1, h2, h3, h4.tr t hd hX⟩
theorem Cont.nil (w : World) (X : Nat → Prop) : Cont w X (.slice none 0 0) [] := ⟨none, 0, 0, rfl, rfl, Nat.le_refl _, by unfold maxLen; omega, fun j u h => by simp at h⟩
theorem Cont.half {n c : Nat} (h : Cont w X (.slice A n c) b) : Cont w X (.slice A (n / 2) c) (b.take (b.length / 2)) := by
  obtain ⟨A', n', c', e, h1, h2, h3, h4⟩ := h
  injection e with e1 e2 e3
  subst e1 e2 e3
  refine ⟨A, n / 2, c, rfl, by rw [List.length_take, h1]; omega, by omega, h3, fun j u hu => ?_⟩
  rw [List.map_take, List.getElem?_take] at hu
  split at hu
  · exact h4 j u hu
  · cases hu
theorem Cont.of_own {B n c : Nat} (h : Own w B 5 1 A n c (b.map bv)) (hX : ∀ g, blkOf A = some g → X g) : Cont w X (.slice A n c) b := by
  have hl := h.1
  rw [List.length_map, Nat.mul_one] at hl
  refine ⟨A, n, c, rfl, hl, h.le.1, h.le.2, fun j u hu => ?_⟩
  rcases h.2 with ⟨_, rfl, _⟩ | ⟨g, rest, rfl, hb, hr, _⟩
  · have : b = [] := List.eq_nil_of_length_eq_zero hl
    subst this
    simp at hu
  · refine ⟨⟨g, 0, none⟩, _, _, rfl, ?_, hX g rfl, hr⟩
    rw [add_plain, hr.cell]
    have hlt := (List.getElem?_eq_some_iff.1 hu).1
    rw [List.getElem?_append_left hlt]
    exact hu
end
def R1 : Value → Option (DataW Value × List MemPlace)
  | .slice A n c => some (.held (.slice A n c), [])
  | _ => none
theorem R1_inv {v : Value} {y : DataW Value × List MemPlace} (h : R1 v = some y) : ∃ q : Option Addr × Nat × Nat, v = .slice q.1 q.2.1 q.2.2 ∧ y = (.held v, []) := by
  unfold R1 at h
  split at h
  · injection h with h; exact ⟨(_, _, _), rfl, h.symm⟩
  · cases h
abbrev ZF := Value × (Str × Str)
def zent (q : ZF) : Lit × DataW Value := (.string q.2.1, .held q.1)
def FilesAt (w : World) (X : Nat → Prop) (b : Nat) (l : Files) : Prop :=
  ∃ z : List ZF, z.map (·.2) = l ∧ (∀ q ∈ z, Cont w X q.1 q.2.2) ∧ w.ownsMap Try.prog 9 R1 b l.length (.map (z.map zent))
theorem zent_find (z : List ZF) (n : Str) (d : DataW Value) : (DataW.map (z.map zent)).atKey (.string n) d = match z.find? (fun q => q.2.1 == n) with | some q => .held q.1 | none => d := by
  unfold DataW.atKey
  simp only [List.find?_map]
  have : ((fun p : Lit × DataW Value => p.1.sameKey (.string n)) ∘ zent) = fun q : ZF => q.2.1 == n := rfl
  rw [this]
  cases z.find? (fun q => q.2.1 == n) <;> rfl
theorem zget (z : List ZF) (n : Str) : Files.get (z.map (·.2)) n = (z.find? (fun q => q.2.1 == n)).map (·.2.2) := by
  unfold Files.get
  rw [List.find?_map]
  have : ((fun p : Str × Str => p.1 == n) ∘ fun q : ZF => q.2) = fun q : ZF => q.2.1 == n := rfl
  rw [this]
  cases z.find? (fun q => q.2.1 == n) <;> rfl
theorem zhas (z : List ZF) (n : Str) : Maps.has (DataW.map (z.map zent)) (.string n) = (Files.get (z.map (·.2)) n).isSome := by
  show (z.map zent).any (fun p => p.1.sameKey (.string n)) = _
  rw [zget, List.any_map]
  have : ((fun p : Lit × DataW Value => p.1.sameKey (.string n)) ∘ zent) = fun q : ZF => q.2.1 == n := rfl
  rw [this, Option.isSome_map, List.isSome_find?]
theorem zput (z : List ZF) (n b : Str) (v : Value) : (DataW.map (z.map zent)).put (.string n) (.held v) = .map ((insBy (fun q : ZF => q.2.1) (v, (n, b)) (z.filter fun q => !(q.2.1 == n))).map zent) := by
  show DataW.map (DataW.insert (.string n, .held v) ((z.map zent).filter fun p => !p.1.sameKey (.string n))) = _
  have h1 : ((z.map zent).filter fun p => !p.1.sameKey (.string n)) = (z.filter fun q => !(q.2.1 == n)).map zent := by
    rw [List.filter_map]; rfl
  rw [h1]
  congr 1
  generalize (z.filter fun q => !(q.2.1 == n)) = y
  induction y with
  | nil => rfl
  | cons x r ih =>
    simp only [List.map_cons, DataW.insert, insBy]
    have hb : (Lit.string n).before (zent x).1 = bytesBefore n x.2.1 := rfl
    rw [hb]
    split
    · rfl
    · rw [ih]; rfl
theorem zput_fst (z : List ZF) (n b : Str) (v : Value) : (insBy (fun q : ZF => q.2.1) (v, (n, b)) (z.filter fun q => !(q.2.1 == n))).map (·.2) = Files.put (z.map (·.2)) n b := by
  unfold Files.put
  rw [insBy_map (fun q : ZF => q.2) (·.1) (v, (n, b)), List.filter_map]
  rfl
theorem zdel (z : List ZF) (n : Str) : (DataW.map (z.map zent)).del (.string n) = .map ((z.filter fun q => !(q.2.1 == n)).map zent) := by
  show DataW.map ((z.map zent).filter fun p => !p.1.sameKey (.string n)) = _
  rw [List.filter_map]; rfl
theorem zdel_fst (z : List ZF) (n : Str) : (z.filter fun q => !(q.2.1 == n)).map (·.2) = Files.del (z.map (·.2)) n := by
  unfold Files.del
  rw [List.filter_map]
  rfl
theorem ownsMap_tight {w : World} {b n : Nat} {es : List (Lit × DataW Value)} (h : w.ownsMap Try.prog 9 R1 b n (.map es)) : w.ownsMap Try.prog 9 R1 b es.length (.map es) := by
  obtain ⟨a, clock, hb, F, hs, hD⟩ := h
  refine ⟨a, clock, hb, F, ?_, hD⟩
  injection hD with hD
  rw [hD, length_read]
  exact Nat.le_refl _
theorem ownsMap_at {w w' : World} {b n : Nat} {D : DataW Value} (h : w.ownsMap Try.prog 9 R1 b n D) (e : w'.heap[b]? = w.heap[b]?) : w'.ownsMap Try.prog 9 R1 b n D := by
  obtain ⟨a, clock, hb, r⟩ := h
  exact ⟨a, clock, e.trans hb, r⟩
theorem keyed : Keyed Try.prog 9 := string_keyed Try.underlying9
theorem key_of {n : Str} (h : n.length ≤ maxLen) : keyOf Try.prog 9 (encStr n) = some (.string n) := by
  have := WideMaps.keyOf_string_mk (P := Try.prog) Try.underlying9 (s := ⟨n.toArray⟩) (by simpa [ByteArray.size] using h)
  simpa using this
section
variable {X X' : Nat → Prop} {w w' : World} {b : Nat} {l : Files} {n : Str}
theorem FilesAt.lt (h : FilesAt w X b l) : b < w.heap.size := by
  obtain ⟨z, _, _, h⟩ := h
  exact h.lt
theorem FilesAt.keep (h : FilesAt w X b l) (e : w'.heap[b]? = w.heap[b]?) (hk : ∀ v xs, Cont w X v xs → Cont w' X' v xs) : FilesAt w' X' b l := by
  obtain ⟨z, h1, h2, h3⟩ := h
  exact ⟨z, h1, fun q hq => hk _ _ (h2 q hq), ownsMap_at h3 e⟩
theorem FilesAt.no_row (h : FilesAt w X b l) {cs : Array Value} {t : TypeId} {f : Nat × Nat} (e : w.heap[b]? = some (.cells cs t f)) : False := by
  obtain ⟨z, _, _, a, clock, hb, _⟩ := h
  rw [hb] at e
  cases e
theorem FilesAt.made (w : World) (X : Nat → Prop) : FilesAt (w.alloc (.map #[] 0)) X w.heap.size [] := ⟨[], rfl, by simp, World.ownsMap_made w _ _ _⟩
theorem FilesAt.look (h : FilesAt w X b l) (hn : n.length ≤ maxLen) :
    ∃ A m c, Cont w X (.slice A m c) ((l.get n).getD []) ∧ ∀ w', w'.heap[b]? = w.heap[b]? → (Instr.lookup 63 (.map (some b)) (encStr n) false).run Try.prog w' = .ok (.slice A m c) w' := by
  obtain ⟨z, rfl, h2, h3⟩ := h
  have hl : ∀ w', w'.heap[b]? = w.heap[b]? → ∃ v ps, (Instr.lookup 63 (.map (some b)) (encStr n) false).run Try.prog w' = .ok v w' ∧ R1 v = some ((DataW.map (z.map zent)).atKey (.string n) (.held (.slice none 0 0)), ps) := fun w' e =>
    (ownsMap_at h3 e).lookup keyed Try.underlying63 (Try.zeroValue29 w') rfl (key_of hn)
  rw [zent_find] at hl
  rw [zget]
  cases hf : z.find? (fun q => q.2.1 == n) with
  | none =>
    rw [hf] at hl
    refine ⟨none, 0, 0, Cont.nil _ _, fun w' e => ?_⟩
    obtain ⟨v, ps, hr, hR⟩ := hl w' e
    obtain ⟨q, rfl, e2⟩ := R1_inv hR
    simp only [Prod.mk.injEq, DataW.held.injEq] at e2
    replace e2 := e2.1
    exact hr.trans (congrArg (fun u => Result.ok u w') e2.symm)
  | some q =>
    rw [hf] at hl
    have hq := h2 q (List.mem_of_find?_eq_some hf)
    obtain ⟨A, m, c, e0, _⟩ := id hq
    refine ⟨A, m, c, e0 ▸ hq, fun w' e => ?_⟩
    obtain ⟨v, ps, hr, hR⟩ := hl w' e
    obtain ⟨q', rfl, e2⟩ := R1_inv hR
    simp only [Prod.mk.injEq, DataW.held.injEq] at e2
    replace e2 := e2.1
    exact hr.trans (congrArg (fun u => Result.ok u w') (e2.symm.trans e0))
theorem FilesAt.look_ok (h : FilesAt w X b l) (hn : n.length ≤ maxLen) :
    ∃ A m c, Cont w X (.slice A m c) ((l.get n).getD []) ∧ ∀ w', w'.heap[b]? = w.heap[b]? → (Instr.lookup 63 (.map (some b)) (encStr n) true).run Try.prog w' = .ok (.tuple #[.slice A m c, .bool (l.get n).isSome]) w' := by
  obtain ⟨z, rfl, h2, h3⟩ := h
  have hl : ∀ w', w'.heap[b]? = w.heap[b]? → ∃ v ps, (Instr.lookup 63 (.map (some b)) (encStr n) true).run Try.prog w' = .ok (.tuple #[v, .bool (Maps.has (.map (z.map zent)) (.string n))]) w' ∧ R1 v = some ((DataW.map (z.map zent)).atKey (.string n) (.held (.slice none 0 0)), ps) := fun w' e =>
    (ownsMap_at h3 e).look_ok keyed Try.underlying63 (Try.zeroValue29 w') rfl (key_of hn)
  rw [zent_find, zhas] at hl
  rw [zget] at hl ⊢
  cases hf : z.find? (fun q => q.2.1 == n) with
  | none =>
    rw [hf] at hl
    refine ⟨none, 0, 0, Cont.nil _ _, fun w' e => ?_⟩
    obtain ⟨v, ps, hr, hR⟩ := hl w' e
    obtain ⟨q, rfl, e2⟩ := R1_inv hR
    simp only [Prod.mk.injEq, DataW.held.injEq] at e2
    replace e2 := e2.1
    exact hr.trans (congrArg (fun u => Result.ok (Value.tuple #[u, .bool _]) w') e2.symm)
  | some q =>
    rw [hf] at hl
    have hq := h2 q (List.mem_of_find?_eq_some hf)
    obtain ⟨A, m, c, e0, _⟩ := id hq
    refine ⟨A, m, c, e0 ▸ hq, fun w' e => ?_⟩
    obtain ⟨v, ps, hr, hR⟩ := hl w' e
    obtain ⟨q', rfl, e2⟩ := R1_inv hR
    simp only [Prod.mk.injEq, DataW.held.injEq] at e2
    replace e2 := e2.1
    exact hr.trans (congrArg (fun u => Result.ok (Value.tuple #[u, .bool _]) w') (e2.symm.trans e0))
theorem FilesAt.put (h : FilesAt w X b l) {v : Value} {x : Str} (hv : Cont w X v x) {m : Nat} (hm : w'.ownsMap Try.prog 9 R1 b m ((DataW.map ((Classical.choose h).map zent)).put (.string n) (.held v)))
    (hk : ∀ v xs, Cont w X v xs → Cont w' X v xs) : FilesAt w' X b (l.put n x) := by
  have h1 := (Classical.choose_spec h).1
  have h2 := (Classical.choose_spec h).2.1
  generalize Classical.choose h = z at h1 h2 hm
  rw [zput z n x v] at hm
  have h4 := zput_fst z n x v
  rw [h1] at h4
  refine ⟨_, h4, fun q hq => ?_, ?_⟩
  · rcases mem_insBy.1 hq with rfl | hq
    · exact hk _ _ hv
    · exact hk _ _ (h2 q (List.mem_filter.1 hq).1)
  · have := ownsMap_tight hm
    rw [← h4]
    simpa using this
theorem FilesAt.drop (h : FilesAt w X b l) {m : Nat} (hm : w'.ownsMap Try.prog 9 R1 b m ((DataW.map ((Classical.choose h).map zent)).del (.string n)))
    (hk : ∀ v xs, Cont w X v xs → Cont w' X v xs) : FilesAt w' X b (l.del n) := by
  have h1 := (Classical.choose_spec h).1
  have h2 := (Classical.choose_spec h).2.1
  generalize Classical.choose h = z at h1 h2 hm
  rw [zdel z n] at hm
  have h4 := zdel_fst z n
  rw [h1] at h4
  refine ⟨_, h4, fun q hq => hk _ _ (h2 q (List.mem_filter.1 hq).1), ?_⟩
  have := ownsMap_tight hm
  rw [← h4]
  simpa using this
theorem FilesAt.owns (h : FilesAt w X b l) : w.ownsMap Try.prog 9 R1 b l.length (.map ((Classical.choose h).map zent)) := (Classical.choose_spec h).2.2
theorem FilesAt.entry (h : FilesAt w X b l) {kl : Lit} {v : Value} (hat : ∀ d, (DataW.map ((Classical.choose h).map zent)).atKey kl d = .held v) (hk : WideAt.IsKeyLit kl) : ∃ m x, kl = .string m ∧ (m, x) ∈ l ∧ Cont w X v x := by
  have h1 := (Classical.choose_spec h).1
  have h2 := (Classical.choose_spec h).2.1
  generalize Classical.choose h = z at h1 h2 hat
  have hh := Maps.has_true_of_atKey hat
  obtain ⟨p, hp, hs⟩ := List.any_eq_true.1 hh
  obtain ⟨q, hq, rfl⟩ := List.mem_map.1 hp
  have e := WideAt.sameKey_eq hs
  subst e
  have h3 := hat (.lit (.bool true))
  show ∃ m x, Lit.string q.2.1 = Lit.string m ∧ _
  have h4 : (DataW.map (z.map zent)).atKey (.string q.2.1) (.lit (.bool true)) = .held v := h3
  rw [zent_find] at h4
  cases hf : z.find? (fun r => r.2.1 == q.2.1) with
  | none => rw [hf] at h4; cases h4
  | some r =>
    rw [hf] at h4
    injection h4 with h4
    have hr := List.mem_of_find?_eq_some hf
    have e2 : r.2.1 = q.2.1 := by simpa using List.find?_some hf
    refine ⟨q.2.1, r.2.2, rfl, ?_, h4 ▸ h2 r hr⟩
    rw [← h1, ← e2]
    exact List.mem_map.2 ⟨r, hr, rfl⟩
theorem FilesAt.size (h : FilesAt w X b l) : Maps.size (DataW.map ((Classical.choose h).map zent)) = l.length := by
  have h1 := (Classical.choose_spec h).1
  show ((Classical.choose h).map zent).length = _
  rw [List.length_map, ← List.length_map (f := (·.2)), h1]
end
def chCells (q : Value × Ch) : List Value := [encStr q.2.name, q.1, .bool q.2.gone]
def SinceAt (w : World) (X : Nat → Prop) (A : Option Addr) (c : Nat) (l : List Ch) : Prop :=
  ∃ z : List (Value × Ch), z.map (·.2) = l ∧ (∀ q ∈ z, Cont w X q.1 q.2.b) ∧ Own w 0 70 3 A l.length c (z.flatMap chCells)
section
variable {X X' Y : Nat → Prop} {w w' : World} {A : Option Addr} {c : Nat} {l : List Ch}
theorem SinceAt.nil (w : World) (X : Nat → Prop) : SinceAt w X none 0 [] := ⟨[], rfl, by simp, Own.nil _ _ _ _⟩
theorem SinceAt.keep (h : SinceAt w X A c l) {row : Option Nat} (hg : w.grownBy w' row) (hne : ∀ g, blkOf A = some g → row ≠ some g) (hk : ∀ v xs, Cont w X v xs → Cont w' X' v xs) : SinceAt w' X' A c l := by
  obtain ⟨z, h1, h2, h3⟩ := h
  exact ⟨z, h1, fun q hq => hk _ _ (h2 q hq), h3.keep hg hne⟩
theorem SinceAt.tr (h : SinceAt w X A c l) (t : Tr Y w w') (hne : ∀ g, blkOf A = some g → ¬ Y g) (hk : ∀ v xs, Cont w X v xs → Cont w' X' v xs) : SinceAt w' X' A c l := by
  obtain ⟨z, h1, h2, h3⟩ := h
  refine ⟨z, h1, fun q hq => hk _ _ (h2 q hq), h3.1, ?_⟩
  rcases h3.2 with h0 | ⟨g, rest, hA, hb, hr, r⟩
  · exact .inl h0
  · exact .inr ⟨g, rest, hA, hb, t.row hr (hne g (by rw [hA]; rfl)), r⟩
theorem SinceAt.no_bytes (h : SinceAt w X A c l) {g : Nat} (hg : blkOf A = some g) {cs : Array Value} {f : Nat × Nat} (e : w.heap[g]? = some (.cells cs 5 f)) : False := by
  obtain ⟨z, h1, h2, h3⟩ := h
  rcases h3.2 with ⟨h0, _⟩ | ⟨g', rest, rfl, hb, hr, r⟩
  · rw [h0] at hg; cases hg
  · injection hg with hg
    subst hg
    unfold Row at hr
    rw [e] at hr
    injection hr with hr
    injection hr with _ hr
    cases hr
theorem flat_at (z : List (Value × Ch)) {i : Nat} {q : Value × Ch} (h : z[i]? = some q) : (z.flatMap chCells)[i * 3]? = some (encStr q.2.name) ∧ (z.flatMap chCells)[i * 3 + 1]? = some q.1 ∧ (z.flatMap chCells)[i * 3 + 2]? = some (.bool q.2.gone) := by
  induction z generalizing i with
  | nil => simp at h
  | cons x r ih =>
    cases i with
    | zero =>
      have : x = q := by simpa using h
      subst this
      exact ⟨rfl, rfl, rfl⟩
    | succ i =>
      have := ih (i := i) (by simpa using h)
      have e : ∀ k, ((x :: r).flatMap chCells)[(i + 1) * 3 + k]? = (r.flatMap chCells)[i * 3 + k]? := fun k => by
        rw [List.flatMap_cons, List.getElem?_append_right (by simp [chCells]; omega)]
        congr 1
        simp [chCells]
        omega
      exact ⟨(e 0).trans this.1, (e 1).trans this.2.1, (e 2).trans this.2.2⟩
theorem SinceAt.blk (h : SinceAt w X A c l) : ∀ g, blkOf A = some g → g < w.heap.size := by
  obtain ⟨z, h1, h2, h3⟩ := h
  exact fun g hg => (h3.blk g hg).2
theorem SinceAt.at_ (h : SinceAt w X A c l) {i : Nat} (hi : i < l.length) : ∃ g v, A = some ⟨g, 0, none⟩ ∧ Cont w X v l[i].b ∧
    w.cell? ⟨g, i * 3, none⟩ = some (encStr l[i].name) ∧ w.cell? ⟨g, i * 3 + 1, none⟩ = some v ∧ w.cell? ⟨g, i * 3 + 2, none⟩ = some (.bool l[i].gone) := by
  obtain ⟨z, rfl, h2, h3⟩ := h
  have hi' : i < z.length := by simpa using hi
  have hz : z[i]? = some z[i] := List.getElem?_eq_getElem hi'
  obtain ⟨e1, e2, e3⟩ := flat_at z hz
  have hlen : (z.flatMap chCells).length = z.length * 3 := by simpa using h3.1
  rcases h3.2 with ⟨_, h0, _⟩ | ⟨g, rest, rfl, hb, hr, r⟩
  · simp at h0
    subst h0
    simp at hi'
  · refine ⟨g, z[i].1, rfl, ?_, ?_, ?_, ?_⟩
    · simpa using h2 z[i] (List.getElem_mem hi')
    · rw [hr.cell, List.getElem?_append_left (by omega), e1]; simp
    · rw [hr.cell, List.getElem?_append_left (by omega), e2]
    · rw [hr.cell, List.getElem?_append_left (by omega), e3]; simp
end
def vfsCells (bn bk : Nat) (A : Option Addr) (c : Nat) (s : V) : List Value :=
  [.map (some bn), .map (some bk), .slice A s.since.length c, .int .i64 s.room, .int .i64 s.stop, .int .i64 s.ops, .bool s.dead]
structure Mem (w : World) (X : Nat → Prop) (p bn bk : Nat) (A : Option Addr) (c : Nat) (s : V) : Prop where
  row : Row w p 66 (vfsCells bn bk A c s)
  now : FilesAt w X bn s.now
  kept : FilesAt w X bk s.kept
  since : SinceAt w X A c s.since
  ne : bn ≠ bk
  xp : X p
  xn : X bn
  xk : X bk
  xs : ∀ g, blkOf A = some g → X g
  lt : ∀ i, X i → i < w.heap.size
def At (w : World) (X : Nat → Prop) (p : Nat) (s : V) : Prop := s.Ok ∧ ∃ bn bk A c, Mem w X p bn bk A c s
structure Mv (w : World) (X : Nat → Prop) (w' : World) (X' : Nat → Prop) : Prop where
  tr : Tr X w w'
  more : ∀ i, X i → X' i
  new : ∀ i, X' i → X i ∨ w.heap.size ≤ i
section
variable {X X' X'' Y : Nat → Prop} {w w' w'' : World} {p bn bk c : Nat} {A : Option Addr} {s : V}
theorem Mv.rfl' (w : World) (X : Nat → Prop) : Mv w X w X := ⟨Tr.rfl' _ _, fun _ h => h, fun _ h => .inl h⟩
theorem Mv.trans (h : Mv w X w' X') (k : Mv w' X' w'' X'') : Mv w X w'' X'' :=
  ⟨h.tr.trans k.tr (fun i hi hx => by
    rcases h.new i hx with h1 | h1
    · exact h1
    · omega), fun i hx => k.more i (h.more i hx), fun i hx => by
    rcases k.new i hx with h1 | h1
    · exact h.new i h1
    · have := h.tr.size
      exact .inr (by omega)⟩
theorem Mv.of_gr (h : Gr w w') (X : Nat → Prop) : Mv w X w' X := ⟨Tr.of_gr h, fun _ h => h, fun _ h => .inl h⟩
theorem Mem.frame (h : Mem w X p bn bk A c s) (t : Tr Y w w') (hd : ∀ i, Y i → X i → False) : Mem w' X p bn bk A c s := by
  have hk : ∀ v xs, Cont w X v xs → Cont w' X v xs := fun v xs hc => hc.tr t (fun i _ _ hy hx _ => hd i hy hx) (fun _ h => h)
  exact ⟨t.row h.row (fun hy => hd _ hy h.xp), h.now.keep (t.block _ h.now.lt (fun hy => hd _ hy h.xn)) hk, h.kept.keep (t.block _ h.kept.lt (fun hy => hd _ hy h.xk)) hk,
    h.since.tr t (fun g hg hy => hd _ hy (h.xs g hg)) hk, h.ne, h.xp, h.xn, h.xk, h.xs, fun i hx => Nat.lt_of_lt_of_le (h.lt i hx) t.size⟩
theorem At.frame (h : At w X p s) (t : Tr Y w w') (hd : ∀ i, Y i → X i → False) : At w' X p s := by
  obtain ⟨hok, bn, bk, A, c, h⟩ := h
  exact ⟨hok, bn, bk, A, c, h.frame t hd⟩
theorem At.gr (h : At w X p s) (t : Gr w w') : At w' X p s := h.frame (Tr.of_gr (X := fun _ => False) t) (fun _ h _ => h)
theorem Mem.gr (h : Mem w X p bn bk A c s) (t : Gr w w') : Mem w' X p bn bk A c s := h.frame (Tr.of_gr (X := fun _ => False) t) (fun _ h _ => h)
theorem Mem.no_bytes_p (h : Mem w X p bn bk A c s) {cs : Array Value} {f : Nat × Nat} (e : w.heap[p]? = some (.cells cs 5 f)) : False := by
  have hr := h.row
  unfold Row at hr
  rw [e] at hr
  injection hr with hr
  injection hr with _ hr
  cases hr
theorem Mem.p_ne_now (h : Mem w X p bn bk A c s) : p ≠ bn := fun e => h.now.no_row (e ▸ h.row)
theorem Mem.p_ne_kept (h : Mem w X p bn bk A c s) : p ≠ bk := fun e => h.kept.no_row (e ▸ h.row)
theorem Mem.since_row (h : Mem w X p bn bk A c s) {g : Nat} (hg : blkOf A = some g) : ∃ xs, Row w g 70 xs := by
  obtain ⟨z, h1, h2, h3⟩ := h.since
  rcases h3.2 with ⟨h0, _⟩ | ⟨g', rest, rfl, hb, hr, r⟩
  · rw [h0] at hg; cases hg
  · injection hg with hg
    subst hg
    exact ⟨_, hr⟩
theorem Mem.p_ne_since (h : Mem w X p bn bk A c s) {g : Nat} (hg : blkOf A = some g) : p ≠ g := by
  obtain ⟨xs, hr⟩ := h.since_row hg
  exact h.row.ne hr (by decide)
theorem Mem.now_ne_since (h : Mem w X p bn bk A c s) {g : Nat} (hg : blkOf A = some g) : bn ≠ g := by
  obtain ⟨xs, hr⟩ := h.since_row hg
  exact fun e => h.now.no_row (e ▸ hr)
theorem Mem.kept_ne_since (h : Mem w X p bn bk A c s) {g : Nat} (hg : blkOf A = some g) : bk ≠ g := by
  obtain ⟨xs, hr⟩ := h.since_row hg
  exact fun e => h.kept.no_row (e ▸ hr)
theorem Mem.own_cells (h : Mem w X p bn bk A c s) {s' : V} (hr : Row w' p 66 (vfsCells bn bk A c s')) (hg : w.grownBy w' (some p)) (h1 : s'.now = s.now) (h2 : s'.kept = s.kept) (h3 : s'.since = s.since) : Mem w' X p bn bk A c s' := by
  have hk : ∀ v xs, Cont w X v xs → Cont w' X v xs := fun v xs hc => hc.tr (Tr.of_grown (X := fun i => i = p) hg (fun g e => by injection e with e; exact e.symm)) (fun i _ _ hy _ e => h.no_bytes_p (hy ▸ e)) (fun _ h => h)
  refine ⟨hr, h1 ▸ h.now.keep (hg.block _ h.now.lt ?_) hk, h2 ▸ h.kept.keep (hg.block _ h.kept.lt ?_) hk, h3 ▸ h.since.keep hg ?_ hk, h.ne, h.xp, h.xn, h.xk, h.xs, fun i hx => Nat.lt_of_lt_of_le (h.lt i hx) hg.size⟩
  · intro e; injection e with e; exact h.p_ne_now e.symm
  · intro e; injection e with e; exact h.p_ne_kept e.symm
  · intro g hg2 e; injection e with e; exact h.p_ne_since hg2 e
theorem Mem.contOf (h : Mem w X p bn bk A c s) {row : Option Nat} (hg : w.grownBy w' row) (hr : ∀ g, row = some g → g = p ∨ g = bn ∨ g = bk ∨ blkOf A = some g) : ∀ v xs, Cont w X v xs → Cont w' X v xs := fun v xs hc =>
  hc.tr (Tr.of_grown (X := fun i => row = some i) hg (fun g e => e)) (fun i _ _ hy _ e => by
    rcases hr i hy with rfl | rfl | rfl | h1
    · exact h.no_bytes_p e
    · exact h.now.no_row e
    · exact h.kept.no_row e
    · exact h.since.no_bytes h1 e) (fun _ h => h)
theorem Mem.now_turned (h : Mem w X p bn bk A c s) {l : Files} (hf : FilesAt w' X bn l) (hg : w.grownBy w' (some bn)) : Mem w' X p bn bk A c { s with now := l } := by
  have hk := h.contOf hg (fun g e => by injection e with e; exact .inr (.inl e.symm))
  refine ⟨(hg.block _ h.row.lt ?_).trans h.row, hf, h.kept.keep (hg.block _ h.kept.lt ?_) hk, h.since.keep hg ?_ hk, h.ne, h.xp, h.xn, h.xk, h.xs, fun i hx => Nat.lt_of_lt_of_le (h.lt i hx) hg.size⟩
  · intro e; injection e with e; exact h.p_ne_now e
  · intro e; injection e with e; exact h.ne e.symm
  · intro g hg2 e; injection e with e; exact h.now_ne_since hg2 e
theorem Mem.kept_turned (h : Mem w X p bn bk A c s) {l : Files} (hf : FilesAt w' X bk l) (hg : w.grownBy w' (some bk)) : Mem w' X p bn bk A c { s with kept := l } := by
  have hk := h.contOf hg (fun g e => by injection e with e; exact .inr (.inr (.inl e.symm)))
  refine ⟨(hg.block _ h.row.lt ?_).trans h.row, h.now.keep (hg.block _ h.now.lt ?_) hk, hf, h.since.keep hg ?_ hk, h.ne, h.xp, h.xn, h.xk, h.xs, fun i hx => Nat.lt_of_lt_of_le (h.lt i hx) hg.size⟩
  · intro e; injection e with e; exact h.p_ne_kept e
  · intro e; injection e with e; exact h.ne e
  · intro g hg2 e; injection e with e; exact h.kept_ne_since hg2 e
theorem Mem.more (h : Mem w X p bn bk A c s) (hX : ∀ i, X i → X' i) (hl : ∀ i, X' i → i < w.heap.size) : Mem w X' p bn bk A c s := by
  have hk : ∀ v xs, Cont w X v xs → Cont w X' v xs := fun v xs hc => hc.tr (Tr.rfl' (fun _ => False) w) (fun _ _ _ hf => hf.elim) hX
  exact ⟨h.row, h.now.keep rfl hk, h.kept.keep rfl hk, h.since.keep (only_refl w none) (fun _ _ => by simp) hk, h.ne, hX _ h.xp, hX _ h.xn, hX _ h.xk, fun g hg => hX _ (h.xs g hg), hl⟩
theorem Mem.set_since (h : Mem w X p bn bk A c s) {A' : Option Addr} {c' : Nat} {l : List Ch} (hs : SinceAt w X A' c' l) (hx : ∀ g, blkOf A' = some g → X g) :
    Mem (w.setCell ⟨p, 2, none⟩ (.slice A' l.length c')) X p bn bk A' c' { s with since := l } := by
  have hg := only_set w p 2 (.slice A' l.length c')
  have hk := h.contOf hg (fun g e => by injection e with e; exact .inl e.symm)
  refine ⟨h.row.set 2 _, h.now.keep (hg.block _ h.now.lt ?_) hk, h.kept.keep (hg.block _ h.kept.lt ?_) hk, hs.keep hg ?_ hk, h.ne, h.xp, h.xn, h.xk, hx, fun i hx => Nat.lt_of_lt_of_le (h.lt i hx) hg.size⟩
  · intro e; injection e with e; exact h.p_ne_now e.symm
  · intro e; injection e with e; exact h.p_ne_kept e.symm
  · intro g hg2 e
    injection e with e
    obtain ⟨z, h1, h2, h3⟩ := hs
    rcases h3.2 with ⟨h0, _⟩ | ⟨g', rest, rfl, hb, hr, r⟩
    · rw [h0] at hg2; cases hg2
    · injection hg2 with hg2
      subst hg2
      exact h.row.ne hr (by decide) e
end
end Go.Proofs.Ytcfbkhgdlgnmgaa
set_option linter.unusedVariables false
set_option linter.unusedSimpArgs false
namespace Go.Proofs.Ytcfbkhgdlgnmgaa
open Go.RowKit Go.Maps Go.Sort Go.Shelf
theorem own_of_ownsRow {w : World} {B : Nat} {e : TypeId} {k n : Nat} {v : Value} {xs : List Value} (h : w.ownsRow B e k v n xs) : ∃ A c, v = .slice A n c ∧ Own w B e k A n c xs := by
  rcases h.2 with ⟨rfl, rfl⟩ | ⟨g, cap, cur, rfl, hb, hg, hn, hm, hs, ht⟩
  · exact ⟨none, 0, rfl, h.1, .inl ⟨rfl, rfl, rfl⟩⟩
  · refine ⟨_, cap, rfl, h.1, .inr ⟨g, cur.toList.drop (n * k), rfl, hb, ?_, hn, hm, ?_⟩⟩
    · unfold Row
      rw [← ht, List.take_append_drop]
      simpa using hg
    · rw [← ht, List.take_append_drop]
      simpa using hs
theorem Rd.plain {w : World} {A : Option Addr} {L : List Str} (h : Rd w A (L.map encStr)) (h0 : 0 < L.length) : ∃ b off, A = some ⟨b, off, none⟩ ∧ ∀ j, j < L.length → w.cell? ⟨b, off + j, none⟩ = some (encStr (L.getD j [])) := by
  obtain ⟨ad, rfl, hc⟩ := h 0 _ (List.getElem?_eq_getElem (by simpa using h0))
  have hs : ad.spot = none := by
    unfold Addr.add at hc
    simp only [if_pos] at hc
    unfold World.cell? at hc
    cases hp : ad.spot with
    | none => rfl
    | some s =>
      rw [hp] at hc
      split at hc <;> simp at hc
  obtain ⟨b, off, sp⟩ := ad
  simp only at hs
  subst hs
  refine ⟨b, off, rfl, fun j hj => ?_⟩
  obtain ⟨ad', e, hc'⟩ := h j _ (List.getElem?_eq_getElem (by simpa using hj))
  injection e with e
  subst e
  rw [add_plain' ] at hc'
  rw [hc']
  simp [List.getD_eq_getElem?_getD, List.getElem?_eq_getElem hj]
def ba (l : Str) : ByteArray := ⟨l.toArray⟩
theorem map_ba (L : List Str) : (L.map ba).map Value.string = L.map encStr := by simp [ba]
theorem getD_ba {L : List Str} {j : Nat} (h : j < L.length) : (L.map ba).getD j ByteArray.empty = ba (L.getD j []) := by
  simp [List.getD_eq_getElem?_getD, List.getElem?_map, List.getElem?_eq_getElem h]
theorem Rd.none_nil {w : World} {L : List Str} (h : Rd w none (L.map encStr)) : L = [] := by
  cases L with
  | nil => rfl
  | cons x l =>
    obtain ⟨ad, e, _⟩ := h 0 _ rfl
    cases e
theorem clone_any (A : Option Addr) (n c : Nat) (L : List Str) (w : World) (hn : Hid (L.length = n)) (hr : Rd w A (L.map encStr)) (hl : n ≤ 1000000) :
    Calls Try.prog 48 #[.slice A n c] w fun e w' => ∃ A' c', e = .returned (.slice A' n c') ∧ Own w' w.heap.size 9 1 A' n c' (L.map encStr) ∧ (A = none ∧ A' = none ∨ A ≠ none ∧ A' ≠ none) ∧ Gr w w' := by
  have hn' := hn.out
  cases A with
  | none =>
    obtain rfl := hr.none_nil
    obtain rfl : 0 = n := hn'
    exact (Try.slices_Clone_string_nil 0 c w).mono fun e w' ⟨he, hw⟩ => by
      subst hw
      exact ⟨none, 0, he, Own.nil _ _ _ _, .inl ⟨rfl, rfl⟩, Gr.rfl' _⟩
  | some ad =>
    by_cases h0 : 0 < n
    · obtain ⟨b, off, e, hc⟩ := hr.plain (by omega)
      injection e with e
      subst e
      have hc' : ∀ j, j < (L.map ba).length → w.cell? ⟨b, off + j, none⟩ = some (.string ((L.map ba).getD j ByteArray.empty)) := by
        intro j hj
        rw [List.length_map] at hj
        rw [hc j hj, getD_ba hj]
        rfl
      refine (Try.slices_Clone_string b off n c (L.map ba) w (by simp; omega) (by omega) hc').mono fun e w' ⟨v', he, hown, hnn, hbel⟩ => ?_
      rw [List.take_of_length_le (by simp; omega), map_ba] at hown
      obtain ⟨A', c', rfl, ho⟩ := own_of_ownsRow hown
      refine ⟨A', c', he, ho, .inr ⟨by simp, ?_⟩, hbel⟩
      rintro rfl
      rcases ho.2 with ⟨_, h1, _⟩ | ⟨_, _, h1, _⟩
      · omega
      · cases h1
    · obtain rfl : n = 0 := by omega
      have : L = [] := List.eq_nil_of_length_eq_zero hn'
      subst this
      refine (Try.slices_Clone_string_zero ad c w).mono fun e w' ⟨v', he, hown, hnn, hbel⟩ => ?_
      obtain ⟨A', c', rfl, ho⟩ := own_of_ownsRow hown
      refine ⟨A', c', he, ho, .inr ⟨by simp, ?_⟩, hbel⟩
      rintro rfl
      rcases ho.2 with ⟨_, _, h1⟩ | ⟨_, _, h1, _⟩
      · subst h1
        exact hnn rfl
      · cases h1
theorem sorts_any (m : Nat) : AnyZ.SortsIn Try.prog Try.sorted_ren Fence.wide m :=
  ⟨fun blk off cap ss W hH hblk hsz => callsIn_wide.2 (AnyM.slices_Sort_string Try.sort blk off cap ss W hH hblk hsz),
   fun p cap W => callsIn_wide.2 (AnyM.slices_Sort_string_none Try.sort p cap W)⟩
theorem keys_any (mb : Option Nat) (W : World) : CallsIn Fence.wide 5 Try.prog 50 #[.map mb] W fun e w' => e = .returned (.func (.func 74) #[] #[.pointer (some ⟨W.heap.size, 0, none⟩)]) ∧ w' = W.alloc (.cells #[.map mb] 63) :=
  AnyZ.keys_in Try.keys Fence.wide 5 trivial rfl mb W
set_option maxHeartbeats 1000000 in
theorem sorted_any {H : Type} (b nn : Nat) (D0 : DataW H) (R : Value → Option (DataW H × List MemPlace)) (w : World) (hown : w.ownsMap Try.prog 9 R b nn D0) (hmax : Maps.size D0 ≤ maxLen) (hbytes : Maps.size D0 * 16 ≤ 140737488355328) :
    CallsIn Fence.wide 5 Try.prog 49 #[.func (.func 74) #[] #[.pointer (some ⟨w.heap.size, 0, none⟩)]] (w.alloc (.cells #[.map (some b)] 63)) fun e w' => ∃ (v : Value) (ss : List (List UInt8)), e = .returned v ∧ ss.Perm (strKeys D0) ∧
      w'.ownsRow (w.alloc (.cells #[.map (some b)] 63)).heap.size 9 1 v ss.length ((ss.mergeSort (fun x y => decide (x ≤ y))).map encStr) ∧ (v = .slice none 0 0 ↔ ss = []) ∧ Below (w.alloc (.cells #[.map (some b)] 63)).heap.size (w.alloc (.cells #[.map (some b)] 63)) w' := by
  have hbl := hown.lt
  have hseq : SeqGives Fence.wide 2 Try.prog 74 #[.pointer (some ⟨w.heap.size, 0, none⟩)] encStr (fun ss => ss.Perm (strKeys D0)) (Maps.size D0) (w.alloc (.cells #[.map (some b)] 63)) :=
    AnyZ.keys_gives (ρ := Try.keys_ren) { Try.keys with } Fence.wide _ trivial rfl (by omega) w.heap.size b nn D0 _ (by simp) (by simp) (by
      obtain ⟨es, clock, hb, Ft, hs, hD⟩ := hown
      exact ⟨es, clock, (Below.heap_alloc _ _ b hbl).trans hb, Ft, hs, hD⟩)
  exact AnyZ.sorted_in Try.sorted Fence.wide 5 trivial trivial trivial trivial rfl (by omega) (sorts_any _) (enters_of Try.func73 (by kernel_rfl) rfl) 74 #[.pointer (some ⟨w.heap.size, 0, none⟩)] trivial (enters_of Try.func74 (by kernel_rfl) rfl) _ _ hmax hbytes _ hseq
theorem info_u8 : (Try.prog.info? 5).map (fun i => (i.zero, i.size, i.bytes)) = some (some (.int .u8 0), 1, 1) := by kernel_rfl
theorem cloneB_any (A : Option Addr) (n c : Nat) (b : Str) (w : World) (hn : b.length = n) (hr : Rd w A (b.map bv)) (hl : n ≤ 100000000) :
    Calls Try.prog 36 #[.slice A n c] w fun e w' => ∃ A' c', e = .returned (.slice A' n c') ∧ Own w' w.heap.size 5 1 A' n c' (b.map bv) ∧ Gr w w' := by
  have q : ∀ (w : World) (a : Option Addr) (n c n' c' : Nat), (binOp .eql 29 (.slice a n c) (.slice none n' c')).run Try.prog w = .ok (.bool a.isNone) w := fun w a n c n' c' => Lib.run_eql_slice_nil w _ _ a n c n' c' Try.underlying29
  obtain ⟨i0, hi, hz0, hz1, hz2⟩ := info_parts info_u8
  cases A with
  | none =>
    have hb : b = [] := by
      cases b with
      | nil => rfl
      | cons x r =>
        obtain ⟨ad, e, _⟩ := hr 0 _ rfl
        cases e
    subst hb
    obtain rfl : 0 = n := hn
    go_enter Try.func36, Try.ntmps36
    go_wp2
    go_ret
    exact ⟨none, 0, rfl, Own.nil _ _ _ _, Gr.rfl' _⟩
  | some ad =>
    have ho := Lib.hid (Own.empty w 5 1)
    have hr2 := hr.gr (Gr.alloc1 w (.cells #[] 5))
    go_enter Try.func36, Try.ntmps36
    go_wp2_with (at_builtin; with_reducible refine wpList_append (o := ⟨some 7, _, _, _, _, _⟩) _ rfl _ _ 29 rfl w.heap.size 5 i0 _ 1 1 Try.underlying29 hi hz0 hz1 hz2 rfl (by omega) _ 0 0 [] rfl ho.out _ n _ (b.map bv) rfl (by simpa using hn) hr2 (bv_one b) (by omega) (by unfold maxLen; omega) (by simp) ?_; intro A' c' w' ho' hk)
    go_ret
    refine ⟨A', c', by simp, by simpa using ho', (Gr.alloc1 w (.cells #[] 5)).trans (hk.below (fun g hg => by injection hg with hg; rw [← hg]; exact Nat.le_refl _) (by simp))⟩
theorem cloneM_any {X : Nat → Prop} {b : Nat} {l : Files} (w : World) (h : FilesAt w X b l) :
    Calls Try.prog 38 #[.map (some b)] w fun e w' => e = .returned (.map (some w.heap.size)) ∧ FilesAt w' X w.heap.size l ∧ Gr w w' := by
  refine (AnyW.maps_Clone_owns Try.cloneM 9 R1 b l.length _ w h.owns).mono fun e w' ⟨he, h1, h2, h3⟩ => ?_
  have e1 := (Classical.choose_spec h).1
  have e2 := (Classical.choose_spec h).2.1
  exact ⟨he, ⟨_, e1, fun q hq => (e2 q hq).tr (Tr.of_gr (X := fun _ => False) h3) (fun _ _ _ hf => hf.elim) (fun _ h => h), h1⟩, h3⟩
theorem bb_lt : ∀ a b : Str, bytesBefore a b = true → a < b
  | [], [], h => by cases h
  | [], _ :: _, _ => by simp
  | _ :: _, [], h => by cases h
  | a :: r, b :: s, h => by
    simp only [bytesBefore, Bool.or_eq_true, decide_eq_true_eq, Bool.and_eq_true, beq_iff_eq] at h
    rw [List.cons_lt_cons_iff]
    rcases h with h | ⟨rfl, h⟩
    · exact .inl h
    · exact .inr ⟨rfl, bb_lt r s h⟩
theorem names_sorted {l : Files} (h : l.Rising) : (l.map (·.1)).mergeSort leB = l.map (·.1) := by
  refine List.mergeSort_of_pairwise ?_
  rw [List.pairwise_map]
  refine List.Pairwise.imp (fun {a b} hab => ?_) h
  simp only [leB, decide_eq_true_eq]
  exact List.le_of_lt (bb_lt _ _ hab)
theorem zkeys (z : List ZF) : strKeys (DataW.map (z.map zent)) = (z.map (·.2)).map (·.1) := by
  simp [strKeys, zent, strOf, List.map_map, Function.comp_def]
set_option maxHeartbeats 1000000 in
theorem names_core {X : Nat → Prop} {p b : Nat} {l : Files} (w : World) (h : FilesAt w X b l) (hl : l.Rising) (hs : l.length ≤ 1000000) (hc : w.cell? ⟨p, 0, none⟩ = some (.map (some b))) :
    Calls Try.prog 23 #[.pointer (some ⟨p, 0, none⟩)] w fun e w' => ∃ A n c, e = .returned (.slice A n c) ∧ n = l.length ∧ Own w' w.heap.size 9 1 A n c ((l.map (·.1)).map encStr) ∧ Gr w w' := by
  have e1 := (Classical.choose_spec h).1
  have ho := h.owns
  have hsz := h.size
  have hk : strKeys (DataW.map ((Classical.choose h).map zent)) = l.map (·.1) := by
    exact (zkeys _).trans (congrArg (List.map (·.1)) e1)
  refine (callsIn_wide (n := 6)).1 ?_
  have hfK : Fence.wide.fn 50 := trivial
  have hfS : Fence.wide.fn 49 := trivial
  have hfC : Fence.wide.fn 48 := trivial
  refine callsIn_of_wp Try.func23 rfl trivial ?_ rfl
  simp only [Try.ntmps23, List.size_toArray, List.length_cons, List.length_nil, Nat.reduceAdd, Nat.reduceSub, Array.replicate_succ, Array.replicate_zero, List.push_toArray, List.append_toArray, List.nil_append, List.cons_append]
  gi_wp2_with (first
    | (gi_at_call 50; refine (keys_any _ _).mono ?_; rintro e w' ⟨rfl, rfl⟩)
    | (gi_at_call 49; (refine (sorted_any b _ _ R1 w ho (by unfold maxLen; omega) (by omega)).mono ?_; rintro e w' ⟨v, ss, rfl, hS, hrow, hnil, hb⟩; obtain ⟨A1, c1, rfl, ho1⟩ := own_of_ownsRow hrow; have hC := Lib.hid (clone_any A1 ss.length c1 _ w' (Lib.hid (by simp)) ho1.rd (by have := hS.length_eq; rw [hk, List.length_map] at this; omega))))
    | (gi_at_call 48; refine ((callsIn_wide (n := 5)).2 hC.out).mono ?_; rintro e w2 ⟨A2, c2, rfl, ho2, _, hg2⟩))
  go_ret
  have hG : Gr w w' := ((Below.refl _ w).alloc (Nat.le_refl _) _).trans (hb.mono (by simp))
  have hp : ss.mergeSort leB = l.map (·.1) := by
    rw [hk] at hS
    rw [mergeSort_of_perm hS, names_sorted hl]
  have hlen : ss.length = l.length := by have := hS.length_eq; rw [hk, List.length_map] at this; exact this
  refine ⟨A2, ss.length, c2, rfl, hlen, ?_, hG.trans' hg2⟩
  have := hp ▸ ho2
  exact this.more (fun g hg => Nat.le_trans hG.size (ho2.blk g hg).1)
end Go.Proofs.Ytcfbkhgdlgnmgaa
set_option linter.unusedVariables false
set_option linter.unusedSimpArgs false
namespace Go.Proofs.Ytcfbkhgdlgnmgaa
open Go.RowKit Go.Maps Go.Sort
structure Sm (s : V) : Prop where
  ops : s.ops ≤ 1000000
  stop : s.stop ≤ 1000000
section
variable {X : Nat → Prop} {w w' : World} {p bn bk c : Nat} {A : Option Addr} {s : V}
theorem Mem.cells (h : Mem w X p bn bk A c s) : w.cell? ⟨p, 0, none⟩ = some (.map (some bn)) ∧ w.cell? ⟨p, 1, none⟩ = some (.map (some bk)) ∧ w.cell? ⟨p, 2, none⟩ = some (.slice A s.since.length c) ∧
    w.cell? ⟨p, 3, none⟩ = some (.int .i64 s.room) ∧ w.cell? ⟨p, 4, none⟩ = some (.int .i64 s.stop) ∧ w.cell? ⟨p, 5, none⟩ = some (.int .i64 s.ops) ∧ w.cell? ⟨p, 6, none⟩ = some (.bool s.dead) :=
  ⟨h.row.cell 0, h.row.cell 1, h.row.cell 2, h.row.cell 3, h.row.cell 4, h.row.cell 5, h.row.cell 6⟩
theorem Mem.frozen (h : Mem w X p bn bk A c s) (i : Nat) : w.frozen? ⟨p, i, none⟩ = false := h.row.frozen i
set_option maxHeartbeats 1000000 in
theorem step_any (h : Mem w X p bn bk A c s) (hs : Sm s) :
    Calls Try.prog 37 #[.pointer (some ⟨p, 0, none⟩)] w fun e w' => e = .returned (.bool s.step.dead) ∧ Mem w' X p bn bk A c s.step ∧ w.grownBy w' (some p) := by
  obtain ⟨c0, c1, c2, c3, c4, c5, c6⟩ := h.cells
  have f4 := h.frozen 4
  have f5 := h.frozen 5
  have f6 := h.frozen 6
  have ho := hs.ops
  have hp := hs.stop
  by_cases hz : s.stop = 0
  · have hz' : ¬ (0 : Int) < (s.stop : Int) := by omega
    go_enter Try.func37, Try.ntmps37
    go_wp2
    go_ret
    have hg := only_set w p 5 (.int .i64 ((s.ops : Int) + 1))
    refine ⟨by simp [V.step, hz], h.own_cells ?_ hg rfl rfl rfl, hg⟩
    have hr := h.row.set 5 (.int .i64 ((s.ops : Int) + 1))
    simpa [vfsCells, V.step, hz] using hr
  · have hz' : (0 : Int) < (s.stop : Int) := by omega
    have key : ∀ (d : Bool), d = decide (s.stop = 1) → w.grownBy (((w.setCell ⟨p, 5, none⟩ (.int .i64 ((s.ops : Int) + 1))).setCell ⟨p, 4, none⟩ (.int .i64 ((s.stop : Int) - 1))).setCell ⟨p, 6, none⟩ (.bool d)) (some p) ∧
        Mem (((w.setCell ⟨p, 5, none⟩ (.int .i64 ((s.ops : Int) + 1))).setCell ⟨p, 4, none⟩ (.int .i64 ((s.stop : Int) - 1))).setCell ⟨p, 6, none⟩ (.bool d)) X p bn bk A c s.step := fun d hd => by
      have hg := only_trans (only_trans (only_set w p 5 (.int .i64 ((s.ops : Int) + 1))) (only_set _ p 4 (.int .i64 ((s.stop : Int) - 1)))) (only_set _ p 6 (.bool d))
      refine ⟨hg, h.own_cells ?_ hg rfl rfl rfl⟩
      have hr := ((h.row.set 5 (.int .i64 ((s.ops : Int) + 1))).set 4 (.int .i64 ((s.stop : Int) - 1))).set 6 (.bool d)
      have e1 : ((s.stop - 1 : Nat) : Int) = (s.stop : Int) - 1 := by omega
      subst hd
      simpa [vfsCells, V.step, hz, e1] using hr
    by_cases h1 : s.stop = 1
    · have k1 := key true (by simp [h1])
      rw [h1] at c4 k1
      go_enter Try.func37, Try.ntmps37
      go_wp2
      go_ret
      exact ⟨by simp [V.step, h1], k1.2, k1.1⟩
    · have k1 := Lib.hid (key false (by simp [h1]))
      have h1' : ((s.stop : Int) - 1 == 0) = false := by simp; omega
      go_enter Try.func37, Try.ntmps37
      go_wp2
      all_goals
        go_ret
        exact ⟨by simp [V.step, hz, h1], k1.out.2, k1.out.1⟩
def chV (v : Value) (ch : Ch) : Value := .agg #[encStr ch.name, v, .bool ch.gone]
theorem FilesAt.conts {l : Files} {b : Nat} (h : FilesAt w X b l) (hg : w.grownBy w' (some b)) : ∀ v xs, Cont w X v xs → Cont w' X v xs := fun v xs hc =>
  hc.tr (Tr.of_grown (X := fun i => i = b) hg (fun g e => by injection e with e; exact e.symm)) (fun i _ _ hy _ e => h.no_row (hy ▸ e)) (fun _ h => h)
set_option maxHeartbeats 1000000 in
theorem do_any {b : Nat} {l : Files} {ch : Ch} {v : Value} (h : FilesAt w X b l) (hv : Cont w X v ch.b) (hn : ch.name.length ≤ 20) (hl : l.length ≤ 1000000) :
    Calls Try.prog 51 #[.map (some b), chV v ch] w fun e w' => e = .returned (.tuple #[]) ∧ FilesAt w' X b (ch.act l) ∧ w.grownBy w' (some b) := by
  unfold chV
  have hk := key_of (n := ch.name) (by unfold maxLen; omega)
  have hg0 : w.grownBy (w.alloc (.cells #[encStr ch.name, v, .bool ch.gone] 70)) (some b) := World.grownBy_alloc w _ _
  have hown := Lib.hid (h.owns.alloc (.cells #[encStr ch.name, v, .bool ch.gone] 70))
  obtain ⟨A, n, c, rfl, _⟩ := id hv
  cases hgn : ch.gone with
  | true =>
    have ea : ch.act l = l.del ch.name := by simp [Ch.act, hgn]
    rw [ea]
    rw [hgn] at hg0 hown
    go_enter Try.func51, Try.ntmps51
    go_wp2_with (at_delete; refine wpList_delete_own _ rfl _ _ 63 9 rfl 29 keyed Try.underlying63 R1 b l.length _ rfl hown.out _ _ rfl hk ?_; intro w1 hown1 hturn1)
    have hg := only_trans hg0 hturn1.grown
    exact bodyPost_end (results_none rfl _ _ _) rfl ⟨rfl, h.drop hown1 (h.conts hg), hg⟩
  | false =>
    have ea : ch.act l = l.put ch.name ch.b := by simp [Ch.act, hgn]
    rw [ea]
    rw [hgn] at hg0 hown
    go_enter Try.func51, Try.ntmps51
    go_wp2_with (at_mapUpdate; refine wpList_mapUpdate_own _ rfl _ _ _ 63 rfl 9 29 keyed Try.underlying63 R1 b l.length _ rfl hown.out (by unfold maxLen; omega) _ _ _ rfl rfl hk (.held (.slice A n c)) [] rfl ?_; intro w1 hown1 hgrow1)
    have hg := only_trans hg0 hgrow1
    exact bodyPost_end (results_none rfl _ _ _) rfl ⟨rfl, h.put hv hown1 (h.conts hg), hg⟩
theorem Mem.set_kept (h : Mem w X p bn bk A c s) {b : Nat} {l : Files} (hf : FilesAt w X b l) (hne : bn ≠ b) (hx : X b) : Mem (w.setCell ⟨p, 1, none⟩ (.map (some b))) X p bn b A c { s with kept := l } := by
  have hg := only_set w p 1 (.map (some b))
  have hk := h.contOf hg (fun g e => by injection e with e; exact .inl e.symm)
  have hpb : p ≠ b := fun e => hf.no_row (e ▸ h.row)
  refine ⟨h.row.set 1 _, h.now.keep (hg.block _ h.now.lt ?_) hk, hf.keep (hg.block _ hf.lt ?_) hk, h.since.keep hg ?_ hk, hne, h.xp, h.xn, hx, h.xs, fun i hx => Nat.lt_of_lt_of_le (h.lt i hx) hg.size⟩
  · intro e; injection e with e; exact h.p_ne_now e.symm
  · intro e; injection e with e; exact hpb e.symm
  · intro g hg2 e; injection e with e; exact h.p_ne_since hg2 e
theorem Mem.set_now (h : Mem w X p bn bk A c s) {b : Nat} {l : Files} (hf : FilesAt w X b l) (hne : b ≠ bk) (hx : X b) : Mem (w.setCell ⟨p, 0, none⟩ (.map (some b))) X p b bk A c { s with now := l } := by
  have hg := only_set w p 0 (.map (some b))
  have hk := h.contOf hg (fun g e => by injection e with e; exact .inl e.symm)
  have hpb : p ≠ b := fun e => hf.no_row (e ▸ h.row)
  refine ⟨h.row.set 0 _, hf.keep (hg.block _ hf.lt ?_) hk, h.kept.keep (hg.block _ h.kept.lt ?_) hk, h.since.keep hg ?_ hk, hne, h.xp, hx, h.xk, h.xs, fun i hx => Nat.lt_of_lt_of_le (h.lt i hx) hg.size⟩
  · intro e; injection e with e; exact hpb e.symm
  · intro e; injection e with e; exact h.p_ne_kept e.symm
  · intro g hg2 e; injection e with e; exact h.p_ne_since hg2 e
theorem Mem.cloned (h : Mem w X p bn bk A c s) {l : Files} (hg : Gr w w') (hf : FilesAt w' X w.heap.size l) :
    Mem w' (fun i => X i ∨ i = w.heap.size) p bn bk A c s ∧ FilesAt w' (fun i => X i ∨ i = w.heap.size) w.heap.size l ∧ Mv w X w' (fun i => X i ∨ i = w.heap.size) := by
  have h2 := h.gr hg
  have hlt := hf.lt
  refine ⟨h2.more (fun _ h => .inl h) (fun i hi => ?_), hf.keep rfl (fun v xs hc => hc.tr (Tr.rfl' (fun _ => False) _) (fun _ _ _ hf => hf.elim) (fun _ h => .inl h)), Tr.of_gr hg, fun _ h => .inl h, fun i hi => ?_⟩
  · rcases hi with hi | hi
    · exact h2.lt i hi
    · exact hi ▸ hlt
  · rcases hi with hi | hi
    · exact .inl hi
    · exact .inr (Nat.le_of_eq hi.symm)
theorem Mv.own_set {X X' : Nat → Prop} {w w1 : World} {p i : Nat} {u : Value} (h : Mv w X w1 X') (hp : X' p) : Mv w X (w1.setCell ⟨p, i, none⟩ u) X' :=
  h.trans ⟨Tr.of_grown (only_set w1 p i u) (fun g e => by injection e with e; exact e ▸ hp), fun _ h => h, fun _ h => .inl h⟩
end
end Go.Proofs.Ytcfbkhgdlgnmgaa
set_option linter.unusedVariables false
set_option linter.unusedSimpArgs false
namespace Go.Proofs.Ytcfbkhgdlgnmgaa.Vc
open Go.RowKit
inductive Fact where
  | is (v : Value)
  | fits (F : Nat → Value → World → Prop)
def Fact.holds : Fact → Nat → Value → World → Prop
  | .is v, _, u, _ => u = v
  | .fits F, k, u, w => F k u w
structure Frames where
  Le : World → World → Prop
  LeC : Nat → World → World → Prop
  G : Nat → World → Prop
  chain : List Nat
def Fact.stable (Φ : Frames) : Fact → Prop
  | .is _ => True
  | .fits F => (∀ k u w w', Φ.G k w → Φ.Le w w' → F k u w → F k u w') ∧ (∀ k u w w', Φ.G k w → Φ.LeC k w w' → Φ.G (k + 1) w' → F k u w → F (k + 1) u w')
abbrev Done := List (Option Nat × Fact)
def lk : Done → Nat → Option Fact
  | [], _ => none
  | (some d, f) :: r, t => if d = t then some f else lk r t
  | (none, _) :: r, t => lk r t
def factOf (done : Done) (a : Act) : Operand → Fact
  | .tmp t => match lk done t with | some f => f | none => .is (a.tmps.getD t undef)
  | .const v => .is v
  | .global g => .is (.pointer (some ⟨g, 0, none⟩))
  | .func f => .is (.func (.func f) #[] #[])
def dstOf (ops : Array Oper) (g : Nat) : Option Nat := (ops[g]?).bind (·.dst)
def guardFact (done : Done) (a : Act) (ops : Array Oper) (g : Nat) : Fact :=
  match dstOf ops g with
  | some d => factOf done a (.tmp d)
  | none => .is undef
def okUpon (P : Program) (F : Fact) (J : World → World → Prop) (k : Nat) (w : World) : Result Next → Prop
  | .ok (.value v) w' => F.holds k v w' ∧ J w w'
  | .ok .skip w' => F.holds k undef w' ∧ J w w'
  | .ok (.enter f args) w1 => Calls P f args w1 fun e w' => ∃ v, e = .returned v ∧ F.holds k v w' ∧ J w w'
  | _ => False
def factsHold (done : Done) (a : Act) (ρ : Operand → Value) (k : Nat) (w : World) : List Operand → Prop
  | [] => True
  | x :: r => (factOf done a x).holds k (ρ x) w ∧ factsHold done a ρ k w r
def bit (b : Array Nat) (i j : Nat) : Bool := (b.getD i 0).testBit j
structure Frames.I (Φ : Frames) (b : Array Nat) (i k : Nat) (w : World) : Prop where
  g : Φ.G k w
  eq : ∀ m, Φ.chain.idxOf? i = some m → k = m
  le : ∀ m c, Φ.chain[m]? = some c → bit b c i = true → k ≤ m
  lt : ∀ m c, Φ.chain[m]? = some c → bit b i c = true → m < k
  top : k ≤ Φ.chain.length
def Frames.J (Φ : Frames) (i k : Nat) : World → World → Prop := fun w w' => match Φ.chain.idxOf? i with | some _ => Φ.LeC k w w' ∧ Φ.G (k + 1) w' | none => Φ.Le w w'
def Frames.next (Φ : Frames) (i k : Nat) : Nat := match Φ.chain.idxOf? i with | some _ => k + 1 | none => k
def StepOb (P : Program) (ops : Array Oper) (a : Act) (Φ : Frames) (b : Array Nat) (i : Nat) (done : Done) (o : Oper) (F : Fact) : Prop :=
  ∀ (ρ : Operand → Value) (k : Nat) (w : World), Φ.I b i k w → factsHold done a ρ k w o.op.operands.toList →
    match o.guard with
    | none => okUpon P F (Φ.J i k) (Φ.next i k) w ((execOp ρ o).run P w)
    | some (g, want) => ∀ vg, (guardFact done a ops g).holds k vg w →
      (vg = .bool want → okUpon P F (Φ.J i k) (Φ.next i k) w ((execOp ρ o).run P w)) ∧ (vg ≠ .bool want → F.holds (Φ.next i k) undef w ∧ Φ.J i k w w)
def finish (Q : Act → Prop) (k : Nat) (w : World) : Done → Act → Prop
  | [], a => Q a
  | (none, _) :: r, a => finish Q k w r a
  | (some d, .is v) :: r, a => finish Q k w r (a.put (some d) v)
  | (some d, .fits F) :: r, a => ∀ u, F k u w → finish Q k w r (a.put (some d) u)
def Walk (P : Program) (ops : Array Oper) (a : Act) (Φ : Frames) (b : Array Nat) (Q : Act → World → Prop) : Nat → Done → List Oper → Prop
  | _, done, [] => ∀ w, Φ.G Φ.chain.length w → finish (fun a' => Q a' w) Φ.chain.length w done.reverse a
  | i, done, o :: l => ∃ F : Fact, F.stable Φ ∧ StepOb P ops a Φ b i done o F ∧ Walk P ops a Φ b Q (i + 1) ((o.dst, F) :: done) l
def tmpsOf (ops : Array Oper) (o : Oper) : List Nat :=
  (o.op.operands.toList.filterMap fun | .tmp t => some t | _ => none) ++ (match o.guard with | some (g, _) => (dstOf ops g).toList | none => [])
def okEdges (ops : Array Oper) (b : Array Nat) (i : Nat) (o : Oper) : Bool :=
  (o.after.all fun e => !Region.binds .any e || Nat.blt e.on i) &&
  ((List.range ops.size).all fun j => !bit b i j || o.after.any fun e => Region.binds .any e && (Nat.beq e.on j || bit b e.on j))
def okTmps (ops : Array Oper) (b : Array Nat) (size : Nat) (i : Nat) (o : Oper) : Bool :=
  (match o.dst with | some d => Nat.blt d size | none => true) &&
  ((List.range ops.size).all fun j => Nat.beq j i || match dstOf ops j with
    | none => true
    | some d => (match o.dst with | some d' => !Nat.beq d d' | none => true) && (!(tmpsOf ops o).contains d || bif Nat.blt j i then bit b i j else bit b j i))
def chainOk (b : Array Nat) (n : Nat) : List Nat → Bool
  | [] => true
  | [c] => Nat.blt c n
  | c :: d :: r => Nat.blt c d && bit b d c && chainOk b n (d :: r)
def okB (ops : Array Oper) (b : Array Nat) (chain : List Nat) (size : Nat) : Bool :=
  ((List.range ops.size).all fun i => match ops[i]? with
    | none => true
    | some o => okEdges ops b i o && okTmps ops b size i o) && chainOk b ops.size chain
section
variable {P : Program} {ops : Array Oper} {b : Array Nat} {chain : List Nat} {size : Nat}
theorem okB_at (h : okB ops b chain size = true) {i : Nat} {o : Oper} (hi : ops[i]? = some o) : okEdges ops b i o = true ∧ okTmps ops b size i o = true := by
  simp only [okB, Bool.and_eq_true, List.all_eq_true, List.mem_range] at h
  have h1 := h.1 i (Array.getElem?_eq_some_iff.1 hi).1
  simp only [hi, Bool.and_eq_true] at h1
  exact h1
theorem edge_lt (h : okB ops b chain size = true) {i : Nat} {o : Oper} (hi : ops[i]? = some o) {e : Edge} (he : e ∈ o.after) (hb : Region.binds .any e = true) : e.on < i := by
  have h1 := (okB_at h hi).1
  simp only [okEdges, Bool.and_eq_true] at h1
  have h2 := Array.all_eq_true_iff_forall_mem.1 h1.1 e he
  simpa [hb, Nat.blt_eq] using h2
theorem bit_edge (h : okB ops b chain size = true) {i j : Nat} {o : Oper} (hi : ops[i]? = some o) (hj : j < ops.size) (hbit : bit b i j = true) :
    ∃ e ∈ o.after, Region.binds .any e = true ∧ (e.on = j ∨ bit b e.on j = true) := by
  have h1 := (okB_at h hi).1
  simp only [okEdges, Bool.and_eq_true, List.all_eq_true, List.mem_range] at h1
  have h2 := h1.2 j hj
  simp only [hbit, Bool.not_true, Bool.false_or] at h2
  obtain ⟨e, he, h3⟩ := Array.any_eq_true'.1 h2
  simp only [Bool.and_eq_true, Bool.or_eq_true, Nat.beq_eq] at h3
  exact ⟨e, he, h3.1, h3.2⟩
def Closed (ops : Array Oper) (L : Nat → Bool) : Prop := ∀ i o, ops[i]? = some o → L i = true → ∀ e ∈ o.after, Region.binds .any e = true → L e.on = true
theorem listed_of_bit (h : okB ops b chain size = true) {L : Nat → Bool} (hc : Closed ops L) (j : Nat) (hj : j < ops.size) :
    ∀ (i : Nat) (o : Oper), ops[i]? = some o → (∀ e ∈ o.after, Region.binds .any e = true → L e.on = true) → bit b i j = true → L j = true := by
  intro i
  induction i using Nat.strongRecOn with
  | _ i ih =>
    intro o hi hall hbit
    obtain ⟨e, he, hb, h1⟩ := bit_edge h hi hj hbit
    rcases h1 with rfl | h1
    · exact hall e he hb
    · have hlt := edge_lt h hi he hb
      have hil := (Array.getElem?_eq_some_iff.1 hi).1
      have hon : ops[e.on]? = some ops[e.on] := Array.getElem?_eq_getElem (by omega)
      exact ih e.on hlt _ hon (hc e.on _ hon (hall e he hb)) h1
theorem uniq (h : okB ops b chain size = true) {i j d : Nat} (hi : dstOf ops i = some d) (hj : dstOf ops j = some d) : i = j := by
  by_cases hne : j = i
  · exact hne.symm
  · exfalso
    unfold dstOf at hi hj
    obtain ⟨o, ho, hd⟩ := Option.bind_eq_some_iff.1 hi
    have h1 := (okB_at h ho).2
    simp only [okTmps, Bool.and_eq_true, List.all_eq_true, List.mem_range] at h1
    obtain ⟨oj, hoj, hdj⟩ := Option.bind_eq_some_iff.1 hj
    have h2 := h1.2 j (Array.getElem?_eq_some_iff.1 hoj).1
    simp only [dstOf, hj, hd, Bool.or_eq_true, Nat.beq_eq, hne, false_or, Bool.and_eq_true] at h2
    have := h2.1
    simp at this
theorem dst_lt (h : okB ops b chain size = true) {i d : Nat} (hi : dstOf ops i = some d) : d < size := by
  unfold dstOf at hi
  obtain ⟨o, ho, hd⟩ := Option.bind_eq_some_iff.1 hi
  have h1 := (okB_at h ho).2
  simp only [okTmps, Bool.and_eq_true, hd, Nat.blt_eq] at h1
  exact h1.1
theorem ordered (h : okB ops b chain size = true) {i j d : Nat} {o : Oper} (hi : ops[i]? = some o) (hj : dstOf ops j = some d) (hne : j ≠ i) (hd : d ∈ tmpsOf ops o) :
    (j < i ∧ bit b i j = true) ∨ (i < j ∧ bit b j i = true) := by
  have h1 := (okB_at h hi).2
  simp only [okTmps, Bool.and_eq_true, List.all_eq_true, List.mem_range] at h1
  have hjl : j < ops.size := by
    unfold dstOf at hj
    obtain ⟨oj, hoj, _⟩ := Option.bind_eq_some_iff.1 hj
    exact (Array.getElem?_eq_some_iff.1 hoj).1
  have h2 := h1.2 j hjl
  simp only [hj, Bool.or_eq_true, Nat.beq_eq, hne, false_or, Bool.and_eq_true] at h2
  have h3 := h2.2
  have hd' : (tmpsOf ops o).contains d = true := by simpa using hd
  simp only [hd', Bool.not_true, Bool.false_eq_true, false_or] at h3
  by_cases hlt : j < i
  · have : Nat.blt j i = true := by simpa [Nat.blt_eq] using hlt
    rw [this] at h3
    exact .inl ⟨hlt, h3⟩
  · have : Nat.blt j i = false := by
      cases hb : Nat.blt j i
      · rfl
      · rw [Nat.blt_eq] at hb; exact absurd hb hlt
    rw [this] at h3
    exact .inr ⟨by omega, h3⟩
def doneOf (ops : Array Oper) (Fs : Nat → Fact) : Nat → Done
  | 0 => []
  | k + 1 => (dstOf ops k, Fs k) :: doneOf ops Fs k
theorem lk_none {Fs : Nat → Fact} {t : Nat} : ∀ k, (∀ j, j < k → dstOf ops j ≠ some t) → lk (doneOf ops Fs k) t = none
  | 0, _ => rfl
  | k + 1, h => by
    have ih := lk_none (Fs := Fs) k (fun j hj => h j (by omega))
    unfold doneOf
    cases hd : dstOf ops k with
    | none => simpa [lk] using ih
    | some d =>
      have hne : d ≠ t := fun e => h k (by omega) (by rw [hd, e])
      simpa [lk, hne] using ih
theorem lk_some (h : okB ops b chain size = true) {Fs : Nat → Fact} {t j : Nat} (hj : dstOf ops j = some t) : ∀ k, j < k → lk (doneOf ops Fs k) t = some (Fs j)
  | 0, hlt => absurd hlt (by omega)
  | k + 1, hlt => by
    unfold doneOf
    by_cases hk : k = j
    · subst hk
      simp [lk, hj]
    · have ih := lk_some h (Fs := Fs) hj k (by omega)
      cases hd : dstOf ops k with
      | none => simpa [lk] using ih
      | some d =>
        have hne : d ≠ t := fun e => hk (uniq h (by rw [hd, e]) hj)
        simpa [lk, hne] using ih
theorem walk_gives {a : Act} {Φ : Frames} {Q : Act → World → Prop} : ∀ (l : List Oper) (k : Nat) (Fs₀ : Nat → Fact), (∀ j, l[j]? = ops[k + j]?) → k + l.length = ops.size →
    Walk P ops a Φ b Q k (doneOf ops Fs₀ k) l →
    ∃ Fs : Nat → Fact, (∀ j, j < k → Fs j = Fs₀ j) ∧ (∀ i o, k ≤ i → ops[i]? = some o → (Fs i).stable Φ ∧ StepOb P ops a Φ b i (doneOf ops Fs i) o (Fs i)) ∧
      ∀ w, Φ.G Φ.chain.length w → finish (fun a' => Q a' w) Φ.chain.length w (doneOf ops Fs ops.size).reverse a
  | [], k, Fs₀, hl, hk, h => by
    refine ⟨Fs₀, fun _ _ => rfl, fun i o hi ho => ?_, ?_⟩
    · have := (Array.getElem?_eq_some_iff.1 ho).1
      simp at hk
      omega
    · have hk' : k = ops.size := by simpa using hk
      rw [← hk']
      exact h
  | o :: l, k, Fs₀, hl, hk, h => by
    have h0 : ops[k]? = some o := by simpa using (hl 0).symm
    obtain ⟨F, hst, hob, hw⟩ := h
    let Fs₁ : Nat → Fact := fun j => if j = k then F else Fs₀ j
    have hdone : ∀ m, m ≤ k → doneOf ops Fs₁ m = doneOf ops Fs₀ m := by
      intro m
      induction m with
      | zero => intro _; rfl
      | succ m ihm =>
        intro hm
        have : Fs₁ m = Fs₀ m := by simp [Fs₁, show m ≠ k by omega]
        simp only [doneOf, this, ihm (by omega)]
    have hstep : doneOf ops Fs₁ (k + 1) = (o.dst, F) :: doneOf ops Fs₀ k := by
      have : Fs₁ k = F := by simp [Fs₁]
      simp only [doneOf, this, hdone k (Nat.le_refl _), dstOf, h0, Option.bind_some]
    rw [← hstep] at hw
    obtain ⟨Fs, hsame, hall, hfin⟩ := walk_gives l (k + 1) Fs₁ (fun j => by have := hl (j + 1); simpa [Nat.add_assoc, Nat.add_comm 1 j] using this) (by simp at hk; omega) hw
    have hFk : Fs k = F := by rw [hsame k (by omega)]; simp [Fs₁]
    have hFd : ∀ m, m ≤ k → doneOf ops Fs m = doneOf ops Fs₀ m := by
      intro m
      induction m with
      | zero => intro _; rfl
      | succ m ihm =>
        intro hm
        have h1 : Fs m = Fs₀ m := by rw [hsame m (by omega)]; simp [Fs₁, show m ≠ k by omega]
        simp only [doneOf, h1, ihm (by omega)]
    refine ⟨Fs, fun j hj => ?_, fun i oi hi hoi => ?_, hfin⟩
    · rw [hsame j (by omega)]
      simp [Fs₁, show j ≠ k by omega]
    · by_cases hik : i = k
      · subst hik
        rw [h0] at hoi
        injection hoi with hoi
        subst hoi
        rw [hFk, hFd i (Nat.le_refl _)]
        exact ⟨hst, hob⟩
      · exact hall i oi (by omega) hoi
theorem count_of {p : Nat → Bool} : ∀ (c : List Nat) (k : Nat), k ≤ c.length → (∀ m (hm : m < c.length), p c[m] = decide (m < k)) → (c.filter p).length = k
  | [], k, hk, _ => by simp at hk; simp [hk]
  | x :: c, 0, _, h => by
    have h0 := h 0 (by simp)
    simp at h0
    rw [List.filter_cons, if_neg (by simp [h0])]
    exact count_of c 0 (Nat.zero_le _) fun m hm => by have := h (m + 1) (by simpa using hm); simpa using this
  | x :: c, k + 1, hk, h => by
    have h0 := h 0 (by simp)
    simp at h0
    rw [List.filter_cons, if_pos h0, List.length_cons]
    rw [count_of c k (by simpa using hk) fun m hm => by have := h (m + 1) (by simpa using hm); simpa using this]
theorem chain_facts : ∀ (c : List Nat), chainOk b ops.size c = true → (∀ m (hm : m < c.length), c[m] < ops.size) ∧ (∀ m (hm : m + 1 < c.length), bit b c[m + 1] (c[m]'(by omega)) = true) ∧ ∀ m m' (hm : m' < c.length) (hlt : m < m'), c[m]'(by omega) < c[m']
  | [], _ => ⟨fun m hm => by simp at hm, fun m hm => by simp at hm, fun m m' hm => by simp at hm⟩
  | [x], h => by
    simp only [chainOk, Nat.blt_eq] at h
    refine ⟨fun m hm => ?_, fun m hm => by simp at hm, fun m m' hm hlt => by simp at hm; omega⟩
    have : m = 0 := by simpa using hm
    subst this
    exact h
  | x :: y :: r, h => by
    simp only [chainOk, Bool.and_eq_true, Nat.blt_eq] at h
    obtain ⟨⟨hxy, hb⟩, hr⟩ := h
    obtain ⟨h1, h2, h3⟩ := chain_facts (y :: r) hr
    refine ⟨fun m hm => ?_, fun m hm => ?_, fun m m' hm hlt => ?_⟩
    · cases m with
      | zero => have := h1 0 (by simp); simp at this ⊢; omega
      | succ m => exact h1 m (by simpa using hm)
    · cases m with
      | zero => exact hb
      | succ m => exact h2 m (by simpa using hm)
    · cases m' with
      | zero => omega
      | succ m' =>
        cases m with
        | zero =>
          have hm' : m' < (y :: r).length := by simpa using hm
          by_cases h0 : m' = 0
          · subst h0; exact hxy
          · have := h3 0 m' hm' (by omega)
            simp at this ⊢
            omega
        | succ m => exact h3 m m' (by simpa using hm) (by omega)
end
end Go.Proofs.Ytcfbkhgdlgnmgaa.Vc
namespace Go.Proofs.Ytcfbkhgdlgnmgaa.Vc
open Go.RowKit
section
variable {P : Program} {ops : Array Oper} {b : Array Nat} {size : Nat}
def cnt (Φ : Frames) (listed : Array Bool) : Nat := (Φ.chain.filter fun c => listed.getD c false).length
structure Inv (ops : Array Oper) (a : Act) (Φ : Frames) (Fs : Nat → Fact) (listed : Array Bool) (a' : Act) (w : World) : Prop where
  lsize : listed.size = ops.size
  closed : Closed ops fun i => listed.getD i false
  size : a'.tmps.size = a.tmps.size
  defers : a'.defers = a.defers
  base : ∀ t, (∀ j, listed.getD j false = true → dstOf ops j ≠ some t) → a'.tmps[t]? = a.tmps[t]?
  facts : ∀ j d, listed.getD j false = true → dstOf ops j = some d → (Fs j).holds (cnt Φ listed) (a'.tmps.getD d undef) w
  stage : Φ.G (cnt Φ listed) w
theorem getD_base {a a' : Act} {t : Nat} (h : a'.tmps[t]? = a.tmps[t]?) : a'.tmps.getD t undef = a.tmps.getD t undef := by
  simp only [Array.getD_eq_getD_getElem?, h]
theorem listed_true {listed : Array Bool} {i : Nat} (h : listed.getD i true = false) : listed.getD i false = false := by
  rcases Nat.lt_or_ge i listed.size with h' | h'
  · simp [h'] at h ⊢; exact h
  · simp [Array.getElem?_eq_none h'] at h
theorem tmp_fact {a a' : Act} {w : World} {Φ : Frames} {Fs : Nat → Fact} {listed : Array Bool} {i t : Nat} {o : Oper} (h : okB ops b Φ.chain size = true) (hI : Inv ops a Φ Fs listed a' w)
    (hi : ops[i]? = some o) (hun : listed.getD i false = false) (hall : ∀ e ∈ o.after, Region.binds .any e = true → listed.getD e.on false = true) (ht : t ∈ tmpsOf ops o) :
    (factOf (doneOf ops Fs i) a (.tmp t)).holds (cnt Φ listed) (a'.tmps.getD t undef) w := by
  by_cases hw : ∃ j, dstOf ops j = some t
  · obtain ⟨j, hj⟩ := hw
    by_cases hji : j = i
    · subst hji
      have hn : lk (doneOf ops Fs j) t = none := lk_none j fun j' hj' e => by have := uniq h e hj; omega
      have hb : a'.tmps[t]? = a.tmps[t]? := hI.base t fun j' hl e => by have := uniq h e hj; subst this; rw [hun] at hl; cases hl
      simp only [factOf, hn, Fact.holds]
      exact getD_base hb
    · rcases ordered h hi hj hji ht with ⟨hlt, hbit⟩ | ⟨hlt, hbit⟩
      · have hjl : j < ops.size := by have := (Array.getElem?_eq_some_iff.1 hi).1; omega
        have hlj : listed.getD j false = true := listed_of_bit h hI.closed j hjl i o hi hall hbit
        simp only [factOf, lk_some h hj i hlt]
        exact hI.facts j t hlj hj
      · have hn : lk (doneOf ops Fs i) t = none := lk_none i fun j' hj' e => by have := uniq h e hj; omega
        have hb : a'.tmps[t]? = a.tmps[t]? := hI.base t fun j' hl e => by
          have hjj := uniq h e hj
          subst hjj
          have hil := (Array.getElem?_eq_some_iff.1 hi).1
          unfold dstOf at hj
          obtain ⟨oj, hoj, _⟩ := Option.bind_eq_some_iff.1 hj
          have := listed_of_bit h hI.closed i hil j' oj hoj (fun e he hb => hI.closed j' oj hoj hl e he hb) hbit
          rw [hun] at this
          cases this
        simp only [factOf, hn, Fact.holds]
        exact getD_base hb
  · have hno : ∀ j, dstOf ops j ≠ some t := fun j e => hw ⟨j, e⟩
    have hn : lk (doneOf ops Fs i) t = none := lk_none i fun j _ => hno j
    simp only [factOf, hn, Fact.holds]
    exact getD_base (hI.base t fun j _ => hno j)
theorem put_size (a : Act) (d : Option Tmp) (v : Value) : (a.put d v).tmps.size = a.tmps.size := by cases d <;> simp [Act.put]
theorem put_defers_same (a : Act) (d : Option Tmp) (v : Value) : (a.put d v).defers = a.defers := by cases d <;> rfl
theorem initial {p : Nat → Bool} : ∀ (c : List Nat), (∀ m (hm : m + 1 < c.length), p c[m + 1] = true → p (c[m]'(by omega)) = true) → ∀ m (hm : m < c.length), p c[m] = decide (m < (c.filter p).length)
  | [], _, m, hm => by simp at hm
  | x :: c, h, m, hm => by
    have ht : ∀ m (hm : m + 1 < c.length), p c[m + 1] = true → p (c[m]'(by omega)) = true := fun m hm hp => by
      have := h (m + 1) (by simpa using hm)
      simp only [List.getElem_cons_succ] at this
      exact this hp
    cases hx : p x with
    | true =>
      rw [List.filter_cons, if_pos hx, List.length_cons]
      cases m with
      | zero => simp [hx]
      | succ m =>
        have := initial c ht m (by simpa using hm)
        simp [this]
    | false =>
      have hall : ∀ m (hm : m < (x :: c).length), p (x :: c)[m] = false := by
        intro m
        induction m with
        | zero => intro _; simpa using hx
        | succ m ih =>
          intro hm
          cases hc : p (x :: c)[m + 1] with
          | false => rfl
          | true =>
            have h1 := h m hm hc
            have h2 := ih (by omega)
            rw [h2] at h1
            cases h1
      have hnil : (x :: c).filter p = [] := List.filter_eq_nil_iff.2 fun y hy => by
        obtain ⟨k, hk, rfl⟩ := List.getElem_of_mem hy
        rw [hall k hk]
        simp
      rw [hnil, hall m hm]
      simp
theorem stage_prefix {a a' : Act} {w : World} {Φ : Frames} {Fs : Nat → Fact} {listed : Array Bool} (h : okB ops b Φ.chain size = true) (hI : Inv ops a Φ Fs listed a' w) :
    ∀ m (hm : m < Φ.chain.length), listed.getD Φ.chain[m] false = decide (m < cnt Φ listed) := by
  have hch : chainOk b ops.size Φ.chain = true := by
    have := h
    simp only [okB, Bool.and_eq_true] at this
    exact this.2
  obtain ⟨c1, c2, c3⟩ := chain_facts Φ.chain hch
  refine initial (p := fun c => listed.getD c false) Φ.chain fun m hm hl => ?_
  have hx := c1 (m + 1) hm
  have ho : ops[Φ.chain[m + 1]]? = some ops[Φ.chain[m + 1]] := Array.getElem?_eq_getElem hx
  exact listed_of_bit h hI.closed _ (c1 m (by omega)) _ _ ho (fun e he hbd => hI.closed _ _ ho hl e he hbd) (c2 m hm)
theorem stage_at {a a' : Act} {w : World} {Φ : Frames} {Fs : Nat → Fact} {listed : Array Bool} {i : Nat} {o : Oper} (h : okB ops b Φ.chain size = true) (hI : Inv ops a Φ Fs listed a' w)
    (hi : ops[i]? = some o) (hun : listed.getD i false = false) (hall : ∀ e ∈ o.after, Region.binds .any e = true → listed.getD e.on false = true) : Φ.I b i (cnt Φ listed) w := by
  have hch : chainOk b ops.size Φ.chain = true := by
    have := h
    simp only [okB, Bool.and_eq_true] at this
    exact this.2
  obtain ⟨c1, c2, c3⟩ := chain_facts Φ.chain hch
  have hp := stage_prefix h hI
  have hle : ∀ m c, Φ.chain[m]? = some c → bit b c i = true → cnt Φ listed ≤ m := by
    intro m c hc hb
    obtain ⟨hm, rfl⟩ := List.getElem?_eq_some_iff.1 hc
    have hx := c1 m hm
    have ho : ops[Φ.chain[m]]? = some ops[Φ.chain[m]] := Array.getElem?_eq_getElem hx
    cases hl : listed.getD Φ.chain[m] false with
    | true =>
      have := listed_of_bit h hI.closed i (Array.getElem?_eq_some_iff.1 hi).1 _ _ ho (fun e he hbd => hI.closed _ _ ho hl e he hbd) hb
      exact absurd (hun.symm.trans this) (by simp)
    | false =>
      have := hp m hm
      rw [hl] at this
      simpa using this.symm
  have hlt : ∀ m c, Φ.chain[m]? = some c → bit b i c = true → m < cnt Φ listed := by
    intro m c hc hb
    obtain ⟨hm, rfl⟩ := List.getElem?_eq_some_iff.1 hc
    have h1 : listed.getD Φ.chain[m] false = true := listed_of_bit h hI.closed _ (c1 m hm) i o hi hall hb
    have := hp m hm
    rw [h1] at this
    simpa using this.symm
  refine ⟨hI.stage, fun m hk => ?_, hle, hlt, List.length_filter_le _ _⟩
  rw [List.idxOf?_eq_some_iff] at hk
  obtain ⟨hm, he, _⟩ := hk
  have hmi : Φ.chain[m] = i := by simpa using he
  have h1 : cnt Φ listed ≤ m := by
    have := hp m hm
    rw [hmi, hun] at this
    simpa using this.symm
  cases m with
  | zero => omega
  | succ m =>
    have hb := c2 m hm
    rw [hmi] at hb
    have := hlt m _ (List.getElem?_eq_getElem (by omega)) hb
    omega
theorem cnt_next {a a' : Act} {w : World} {Φ : Frames} {Fs : Nat → Fact} {listed : Array Bool} {i : Nat} {o : Oper} (h : okB ops b Φ.chain size = true) (hI : Inv ops a Φ Fs listed a' w)
    (hi : ops[i]? = some o) (hun : listed.getD i false = false) (hall : ∀ e ∈ o.after, Region.binds .any e = true → listed.getD e.on false = true) :
    cnt Φ (listed.setIfInBounds i true) = Φ.next i (cnt Φ listed) := by
  have hil : i < listed.size := by have := (Array.getElem?_eq_some_iff.1 hi).1; rw [hI.lsize]; exact this
  have hset : ∀ c, (listed.setIfInBounds i true).getD c false = (decide (c = i) || listed.getD c false) := fun c => by
    by_cases hc : i = c
    · subst hc; simp [hil]
    · rw [getD_set_ne false hc]; simp [Ne.symm hc]
  have hat := stage_at h hI hi hun hall
  have hp := stage_prefix h hI
  unfold Frames.next
  cases hk : Φ.chain.idxOf? i with
  | none =>
    have hni : i ∉ Φ.chain := by
      intro hm
      rw [List.idxOf?_eq_none_iff] at hk
      exact absurd hm (by simpa using hk)
    have hsame : (Φ.chain.filter fun c => (listed.setIfInBounds i true).getD c false) = Φ.chain.filter fun c => listed.getD c false :=
      List.filter_congr fun c hc => by
        have : c ≠ i := fun e => hni (e ▸ hc)
        rw [hset c]
        simp [this]
    unfold cnt
    rw [hsame]
  | some m =>
    have hkm := hat.eq m hk
    rw [List.idxOf?_eq_some_iff] at hk
    obtain ⟨hm, he, _⟩ := hk
    have hmi : Φ.chain[m] = i := by simpa using he
    have hch : chainOk b ops.size Φ.chain = true := by
      have := h
      simp only [okB, Bool.and_eq_true] at this
      exact this.2
    obtain ⟨c1, c2, c3⟩ := chain_facts Φ.chain hch
    simp only []
    rw [hkm] at hp ⊢
    refine count_of _ (m + 1) (by omega) fun m' hm' => ?_
    rw [hset, hp m' hm']
    by_cases h1 : m' < m
    · simp [h1, show m' < m + 1 by omega]
    · by_cases h2 : m' = m
      · subst h2; simp [hmi]
      · have h3 := c3 m m' hm' (by omega)
        rw [hmi] at h3
        have h4 : Φ.chain[m'] ≠ i := by omega
        simp [h4, show ¬ m' < m + 1 by omega]
        omega
theorem inv_next {a a' : Act} {w w1 : World} {Φ : Frames} {Fs : Nat → Fact} {listed : Array Bool} {i : Nat} {o : Oper} {v : Value} (h : okB ops b Φ.chain a.tmps.size = true)
    (hG : ∀ k w w', Φ.Le w w' → Φ.G k w → Φ.G k w') (hst : ∀ i o, ops[i]? = some o → (Fs i).stable Φ) (hI : Inv ops a Φ Fs listed a' w)
    (hi : ops[i]? = some o) (hun : listed.getD i false = false) (hall : ∀ e ∈ o.after, Region.binds .any e = true → listed.getD e.on false = true)
    (hF : (Fs i).holds (Φ.next i (cnt Φ listed)) v w1) (hJ : Φ.J i (cnt Φ listed) w w1) : Inv ops a Φ Fs (listed.setIfInBounds i true) (a'.put o.dst v) w1 := by
  have hil : i < listed.size := by have := (Array.getElem?_eq_some_iff.1 hi).1; rw [hI.lsize]; exact this
  have hcn := cnt_next h hI hi hun hall
  have hset : ∀ c, (listed.setIfInBounds i true).getD c false = true → c = i ∨ listed.getD c false = true := fun c hc => by
    by_cases hci : i = c
    · exact .inl hci.symm
    · rw [getD_set_ne false hci] at hc; exact .inr hc
  have hdi : dstOf ops i = o.dst := by simp [dstOf, hi]
  have hstage : Φ.G (cnt Φ (listed.setIfInBounds i true)) w1 := by
    rw [hcn]
    unfold Frames.J at hJ
    unfold Frames.next
    cases hk : Φ.chain.idxOf? i with
    | none => rw [hk] at hJ; exact hG _ _ _ hJ hI.stage
    | some m => rw [hk] at hJ; exact hJ.2
  have hkeep : ∀ (f : Fact) u, f.stable Φ → f.holds (cnt Φ listed) u w → f.holds (cnt Φ (listed.setIfInBounds i true)) u w1 := by
    intro f u hs hh
    cases f with
    | is v => exact hh
    | fits F =>
      rw [hcn]
      unfold Frames.J at hJ
      unfold Frames.next
      cases hk : Φ.chain.idxOf? i with
      | none => rw [hk] at hJ; exact hs.1 _ _ _ _ hI.stage hJ hh
      | some m => rw [hk] at hJ; exact hs.2 _ _ _ _ hI.stage hJ.1 hJ.2 hh
  refine ⟨by simp [hI.lsize], fun j oj hj hl e he hb => ?_, by rw [put_size]; exact hI.size, by rw [put_defers_same]; exact hI.defers, fun t ht => ?_, fun j d hl hd => ?_, hstage⟩
  · rcases hset j hl with rfl | hl
    · rw [hi] at hj
      injection hj with hj
      subst hj
      exact getD_set_true (hall e he hb)
    · exact getD_set_true (hI.closed j oj hj hl e he hb)
  · have hb := hI.base t fun j hl => ht j (getD_set_true hl)
    have hne : o.dst ≠ some t := by
      rw [← hdi]
      exact ht i (by simp [hil])
    cases hd : o.dst with
    | none => exact hb
    | some d =>
      have : d ≠ t := fun e => hne (by rw [hd, e])
      simp only [Act.put, Array.getElem?_setIfInBounds_ne this]
      exact hb
  · by_cases hji : j = i
    · subst hji
      rw [hdi] at hd
      have hlt : d < a'.tmps.size := by rw [hI.size]; exact dst_lt h (hdi.trans hd)
      simp only [hd, Act.put]
      have : (a'.tmps.setIfInBounds d v).getD d undef = v := by simp [hlt]
      rw [this, hcn]
      exact hF
    · have hl' : listed.getD j false = true := by
        rcases hset j hl with e | hl'
        · exact absurd e hji
        · exact hl'
      have hold := hI.facts j d hl' hd
      have hval : (a'.put o.dst v).tmps.getD d undef = a'.tmps.getD d undef := by
        cases hd' : o.dst with
        | none => rfl
        | some d' =>
          have : d' ≠ d := fun e => hji (uniq h hd (by rw [hdi, hd', e]))
          simp only [Act.put, Array.getD_eq_getD_getElem?, Array.getElem?_setIfInBounds_ne this]
      rw [hval]
      have hjs : ∃ oj, ops[j]? = some oj := by
        unfold dstOf at hd
        obtain ⟨oj, hoj, _⟩ := Option.bind_eq_some_iff.1 hd
        exact ⟨oj, hoj⟩
      obtain ⟨oj, hoj⟩ := hjs
      exact hkeep _ _ (hst j oj hoj) hold
theorem facts_all {a a' : Act} {w : World} {Φ : Frames} {Fs : Nat → Fact} {listed : Array Bool} {i : Nat} {o : Oper} (h : okB ops b Φ.chain size = true) (hI : Inv ops a Φ Fs listed a' w)
    (hi : ops[i]? = some o) (hun : listed.getD i false = false) (hall : ∀ e ∈ o.after, Region.binds .any e = true → listed.getD e.on false = true) :
    ∀ xs : List Operand, (∀ x ∈ xs, x ∈ o.op.operands) → factsHold (doneOf ops Fs i) a a'.eval (cnt Φ listed) w xs
  | [], _ => trivial
  | x :: r, hx => by
    refine ⟨?_, facts_all h hI hi hun hall r fun y hy => hx y (List.mem_cons_of_mem _ hy)⟩
    cases x with
    | tmp t => exact tmp_fact h hI hi hun hall (List.mem_append_left _ (List.mem_filterMap.2 ⟨.tmp t, by simpa using hx _ (List.mem_cons_self ..), rfl⟩))
    | const v => rfl
    | global g => rfl
    | func f => rfl
theorem count_set {listed : Array Bool} {i : Nat} (hi : i < listed.size) (hun : listed.getD i false = false) :
    (listed.toList.count false) = ((listed.setIfInBounds i true).toList.count false) + 1 := by
  have h0 : listed.toList[i]'(by simpa using hi) = false := by simpa [hi] using hun
  rw [Array.toList_setIfInBounds, List.count_set (by simpa using hi)]
  simp only [h0]
  have h1 : 0 < listed.toList.count false := List.count_pos_iff.2 (h0 ▸ List.getElem_mem _)
  have e1 : (false == false) = true := rfl
  have e2 : (true == false) = false := rfl
  simp only [e1, e2, if_true, Bool.false_eq_true, if_false]
  omega
theorem ready_nil {a a' : Act} {w : World} {Φ : Frames} {Fs : Nat → Fact} {listed : Array Bool} (h : okB ops b Φ.chain size = true) (hI : Inv ops a Φ Fs listed a' w)
    (hr : Region.ready .any ops listed = []) : ∀ i, i < ops.size → listed.getD i false = true := by
  intro i
  induction i using Nat.strongRecOn with
  | _ i ih =>
    intro hi
    cases hc : listed.getD i false
    · exfalso
      have hon : ops[i]? = some ops[i] := Array.getElem?_eq_getElem hi
      have hm : i ∈ Region.ready .any ops listed := mem_ready.2 ⟨by
        have hil : i < listed.size := by rw [hI.lsize]; exact hi
        simp [hil] at hc ⊢
        exact hc, _, hon, fun e he hb => ih e.on (edge_lt h hon he hb) (by have := edge_lt h hon he hb; omega)⟩
      rw [hr] at hm
      cases hm
    · rfl
theorem finish_gives {chain : List Nat} {a a' : Act} {st : Nat} {w : World} {Fs : Nat → Fact} {Q : Act → Prop} (h : okB ops b chain a.tmps.size = true)
    (hsz : a'.tmps.size = a.tmps.size) (hdf : a'.defers = a.defers) (hbase : ∀ t, (∀ j, j < ops.size → dstOf ops j ≠ some t) → a'.tmps[t]? = a.tmps[t]?)
    (hfacts : ∀ j d, j < ops.size → dstOf ops j = some d → (Fs j).holds st (a'.tmps.getD d undef) w) :
    ∀ (n k : Nat) (x : Act), k + n = ops.size → x.tmps.size = a.tmps.size → x.defers = a.defers →
      (∀ t, (∀ j, k ≤ j → j < ops.size → dstOf ops j ≠ some t) → x.tmps[t]? = a'.tmps[t]?) →
      finish Q st w ((List.range' k n).map fun j => (dstOf ops j, Fs j)) x → Q a'
  | 0, k, x, hk, hs, hd, hx, hfin => by
    have : x = a' := by
      obtain ⟨xt, xd⟩ := x
      obtain ⟨at', ad⟩ := a'
      have e1 : xt = at' := Array.ext_getElem? fun t => hx t fun j h1 h2 => by omega
      have e2 : xd = ad := by simp at hd hdf; rw [hd, hdf]
      rw [e1, e2]
    rw [← this]
    exact hfin
  | n + 1, k, x, hk, hs, hd, hx, hfin => by
    simp only [List.range'_succ, List.map_cons] at hfin
    have step : ∀ d v, dstOf ops k = some d → a'.tmps.getD d undef = v → finish Q st w ((List.range' (k + 1) n).map fun j => (dstOf ops j, Fs j)) (x.put (some d) v) → Q a' := by
      intro d v hdk hv hf
      refine finish_gives h hsz hdf hbase hfacts n (k + 1) (x.put (some d) v) (by omega) (by rw [put_size]; exact hs) (by rw [put_defers_same]; exact hd) (fun t ht => ?_) hf
      by_cases htd : d = t
      · subst htd
        have hlt : d < x.tmps.size := by rw [hs]; exact dst_lt h hdk
        have hlt' : d < a'.tmps.size := by rw [hsz]; exact dst_lt h hdk
        simp only [Act.put]
        rw [Array.getElem?_setIfInBounds_self_of_lt hlt, ← hv]
        simp [hlt']
      · simp only [Act.put, Array.getElem?_setIfInBounds_ne htd]
        exact hx t fun j h1 h2 => by
          by_cases hjk : j = k
          · subst hjk; rw [hdk]; intro e; injection e with e; exact htd e
          · exact ht j (by omega) h2
    cases hdk : dstOf ops k with
    | none =>
      rw [hdk] at hfin
      simp only [finish] at hfin
      refine finish_gives h hsz hdf hbase hfacts n (k + 1) x (by omega) hs hd (fun t ht => hx t fun j h1 h2 => ?_) hfin
      by_cases hjk : j = k
      · subst hjk; rw [hdk]; intro e; cases e
      · exact ht j (by omega) h2
    | some d =>
      rw [hdk] at hfin
      have hf := hfacts k d (by omega) hdk
      cases hF : Fs k with
      | is v =>
        rw [hF] at hfin hf
        simp only [finish] at hfin
        exact step d v hdk hf hfin
      | fits F =>
        rw [hF] at hfin hf
        simp only [finish] at hfin
        exact step d _ hdk rfl (hfin _ hf)
theorem doneOf_reverse (Fs : Nat → Fact) : ∀ n, (doneOf ops Fs n).reverse = (List.range' 0 n).map fun j => (dstOf ops j, Fs j)
  | 0 => rfl
  | n + 1 => by
    rw [doneOf, List.reverse_cons, doneOf_reverse Fs n, List.range'_concat, List.map_append]
    simp
theorem rep_false (n i : Nat) : (Array.replicate n false).getD i false = false := by
  rcases Nat.lt_or_ge i n with h | h
  · simp [h]
  · simp [Array.getElem?_eq_none, h]
theorem undef_ne (b : Bool) : undef ≠ Value.bool b := by unfold undef; intro h; cases h
theorem walk_any {a : Act} {Φ : Frames} {Fs : Nat → Fact} {Q : Exit → Act → World → Prop} (h : okB ops b Φ.chain a.tmps.size = true)
    (hG : ∀ k w w', Φ.Le w w' → Φ.G k w → Φ.G k w')
    (hob : ∀ i o, ops[i]? = some o → (Fs i).stable Φ ∧ StepOb P ops a Φ b i (doneOf ops Fs i) o (Fs i))
    (hfin : ∀ w, Φ.G Φ.chain.length w → finish (fun a' => Q .normal a' w) Φ.chain.length w (doneOf ops Fs ops.size).reverse a) :
    ∀ (fuel : Nat) (listed : Array Bool) (a' : Act) (w : World), listed.toList.count false = fuel → Inv ops a Φ Fs listed a' w → wpAny P .any ops Q fuel listed a' w := by
  have done : ∀ (listed : Array Bool) (a' : Act) (w : World), Inv ops a Φ Fs listed a' w → Region.ready .any ops listed = [] → Q .normal a' w := by
    intro listed a' w hI hr
    have hall := ready_nil h hI hr
    have hcl : cnt Φ listed = Φ.chain.length := by
      have hch : chainOk b ops.size Φ.chain = true := by
        have := h
        simp only [okB, Bool.and_eq_true] at this
        exact this.2
      have hc := (chain_facts Φ.chain hch).1
      have : (Φ.chain.filter fun c => listed.getD c false) = Φ.chain := List.filter_eq_self.2 fun c hc' => by
        obtain ⟨m, hm, he⟩ := List.getElem_of_mem hc'
        exact hall c (he ▸ hc m hm)
      unfold cnt
      rw [this]
    have hstage : Φ.G Φ.chain.length w := hcl ▸ hI.stage
    have hf := hfin w hstage
    rw [doneOf_reverse] at hf
    refine finish_gives (Q := fun a' => Q .normal a' w) h hI.size hI.defers (fun t ht => hI.base t fun j hl => ?_) (fun j d hj hd => hcl ▸ hI.facts j d (hall j hj) hd) ops.size 0 a (by omega) rfl rfl (fun t ht => ?_) hf
    · intro e
      have hjl : j < ops.size := by
        unfold dstOf at e
        obtain ⟨oj, hoj, _⟩ := Option.bind_eq_some_iff.1 e
        exact (Array.getElem?_eq_some_iff.1 hoj).1
      exact ht j hjl e
    · exact (hI.base t fun j hl e => by
        have hjl : j < ops.size := by
          unfold dstOf at e
          obtain ⟨oj, hoj, _⟩ := Option.bind_eq_some_iff.1 e
          exact (Array.getElem?_eq_some_iff.1 hoj).1
        exact ht j (by omega) hjl e).symm
  intro fuel
  induction fuel with
  | zero =>
    intro listed a' w hc hI
    have hnil : Region.ready .any ops listed = [] := by
      cases hr : Region.ready .any ops listed with
      | nil => rfl
      | cons x xs =>
        exfalso
        have hm : x ∈ Region.ready .any ops listed := by rw [hr]; simp
        obtain ⟨hx, ox, hox, _⟩ := mem_ready.1 hm
        have hlt : x < listed.size := by rw [hI.lsize]; exact (Array.getElem?_eq_some_iff.1 hox).1
        have := count_set hlt (listed_true hx)
        omega
    exact ⟨hnil, done listed a' w hI hnil⟩
  | succ fuel ih =>
    intro listed a' w hc hI
    refine ⟨done listed a' w hI, fun i hm => ?_⟩
    obtain ⟨hun', o, hi, hall⟩ := mem_ready.1 hm
    have hun := listed_true hun'
    have hlt : i < listed.size := by rw [hI.lsize]; exact (Array.getElem?_eq_some_iff.1 hi).1
    have hcount : (listed.setIfInBounds i true).toList.count false = fuel := by have := count_set hlt hun; omega
    obtain ⟨hst, hob'⟩ := hob i o hi
    have hIi := stage_at h hI hi hun hall
    have hfs := facts_all h hI hi hun hall o.op.operands.toList (fun x hx => by simpa using hx)
    have hsteps := hob' a'.eval _ w hIi hfs
    have next : ∀ v w1, (Fs i).holds (Φ.next i (cnt Φ listed)) v w1 → Φ.J i (cnt Φ listed) w w1 → wpAny P .any ops Q fuel (listed.setIfInBounds i true) (a'.put o.dst v) w1 := fun v w1 hF hJ =>
      ih _ _ _ hcount (inv_next h hG (fun j oj hj => (hob j oj hj).1) hI hi hun hall hF hJ)
    have run : okUpon P (Fs i) (Φ.J i (cnt Φ listed)) (Φ.next i (cnt Φ listed)) w ((execOp a'.eval o).run P w) → Oper.wp P o a' w (wpAny P .any ops Q fuel (listed.setIfInBounds i true)) Q := by
      intro hok
      unfold Oper.wp
      generalize (execOp a'.eval o).run P w = r at *
      cases r with
      | ok n w1 =>
        cases n <;> simp only [okUpon] at hok <;> simp only [Oper.upon]
        case value v => exact next v w1 hok.1 hok.2
        case skip => exact next undef w1 hok.1 hok.2
        case enter f args => exact hok.mono fun e w2 ⟨v, he, h1, h2⟩ => by subst he; exact next v w2 h1 h2
      | halt x w1 => simp only [okUpon] at hok
    unfold wpOp
    simp only [hi]
    cases hg : o.guard with
    | none =>
      simp only [hg] at hsteps
      simp only [Region.wanted, hg, if_true]
      exact .inl (run hsteps)
    | some gw =>
      obtain ⟨g, want⟩ := gw
      simp only [hg] at hsteps
      cases hd : dstOf ops g with
      | none =>
        have hy : yielded ops a'.tmps g = none := by simp only [dstOf] at hd; simp [yielded, hd]
        have hw : Region.wanted o (yielded ops a'.tmps) = false := by simp [Region.wanted, hg, hy]
        obtain ⟨_, h2⟩ := hsteps undef (by simp only [guardFact, hd]; rfl)
        obtain ⟨hF, hJ⟩ := h2 (undef_ne want)
        rw [hw]
        exact next undef w hF hJ
      | some d =>
        have hdt : d ∈ tmpsOf ops o := List.mem_append_right _ (by simp [hg, hd])
        have hfg := tmp_fact h hI hi hun hall hdt
        obtain ⟨h1, h2⟩ := hsteps (a'.tmps.getD d undef) (by simp only [guardFact, hd]; exact hfg)
        have hd' := hd
        simp only [dstOf] at hd'
        by_cases hv : a'.tmps.getD d undef = .bool want
        · have hw : Region.wanted o (yielded ops a'.tmps) = true := by
            have : a'.tmps[d]? = some (.bool want) := by
              rcases Nat.lt_or_ge d a'.tmps.size with h' | h'
              · simp [h'] at hv ⊢; exact hv
              · simp [Array.getElem?_eq_none h'] at hv
                exact absurd hv (undef_ne want)
            simp [Region.wanted, hg, yielded, hd', this]
          rw [hw]
          exact .inl (run (h1 hv))
        · have hw : Region.wanted o (yielded ops a'.tmps) = false := by
            simp only [Region.wanted, hg, yielded, hd', Option.bind_some]
            rcases Nat.lt_or_ge d a'.tmps.size with h' | h'
            · have hx : a'.tmps[d]? = some (a'.tmps.getD d undef) := by simp [h']
              rw [hx]
              cases hval : a'.tmps.getD d undef <;> simp_all
            · simp [Array.getElem?_eq_none h']
          obtain ⟨hF, hJ⟩ := h2 hv
          rw [hw]
          exact next undef w hF hJ
theorem wp_region_facts {id : Nat} {l : List Oper} {a : Act} {w : World} {Q : Exit → Act → World → Prop} (Φ : Frames) (hm : P.follows .mixedOrders = true)
    (h : okB l.toArray (Region.before l.toArray) Φ.chain a.tmps.size = true) (hG : ∀ k w w', Φ.Le w w' → Φ.G k w → Φ.G k w') (h0 : Φ.G 0 w.drew)
    (hw : Walk P l.toArray a Φ (Region.before l.toArray) (fun a' w' => Q .normal a' w') 0 [] l) : (Code.region id l.toArray true).wp P Q a w := by
  refine wp_region_any hm ?_
  obtain ⟨Fs, _, hall, hfin⟩ := walk_gives (P := P) (ops := l.toArray) (b := Region.before l.toArray) (a := a) (Φ := Φ) (Q := fun a' w' => Q .normal a' w') l 0 (fun _ => .is undef) (fun j => by simp) (by simp) hw
  refine walk_any h hG (fun i o hi => hall i o (Nat.zero_le _) hi) hfin _ _ a w.drew (by simp) ⟨by simp, fun i o hi hl => ?_, rfl, rfl, fun t _ => rfl, fun j d hl => ?_, ?_⟩
  · exact absurd ((rep_false _ _).symm.trans hl) (by simp)
  · exact absurd ((rep_false _ _).symm.trans hl) (by simp)
  · have : (Φ.chain.filter fun c => (Array.replicate l.toArray.size false).getD c false) = [] := List.filter_eq_nil_iff.2 fun c _ => by rw [rep_false]; simp
    unfold cnt
    rw [this]
    exact h0
def At (m : Nat) (F : Value → World → Prop) : Nat → Value → World → Prop := fun k v w => m ≤ k ∧ (k ≤ m → F v w)
theorem At.stable {Φ : Frames} {m : Nat} {F : Value → World → Prop} (h : ∀ u w w', Φ.Le w w' → F u w → F u w') : (Fact.fits (At m F)).stable Φ :=
  ⟨fun k u w w' _ hl hf => ⟨hf.1, fun hk => h u w w' hl (hf.2 hk)⟩, fun k u w w' _ _ _ hf => ⟨Nat.le_succ_of_le hf.1, fun hk => by have := hf.1; omega⟩⟩
def All (F : Value → World → Prop) : Nat → Value → World → Prop := fun _ v w => F v w
theorem All.stable {Φ : Frames} {F : Value → World → Prop} (h : ∀ u w w', Φ.Le w w' → F u w → F u w') (hc : ∀ k u w w', Φ.G k w → Φ.LeC k w w' → F u w → F u w') : (Fact.fits (All F)).stable Φ :=
  ⟨fun _ u w w' _ hl hf => h u w w' hl hf, fun k u w w' hg hl _ hf => hc k u w w' hg hl hf⟩
section
variable {a : Act} {Φ : Frames} {Q : Act → World → Prop} {i : Nat} {done : Done} {o : Oper} {l : List Oper}
def known (done : Done) (a : Act) (x : Operand) : Value := match factOf done a x with | .is v => v | .fits _ => undef
def isKnown (done : Done) (a : Act) (x : Operand) : Bool := match factOf done a x with | .is _ => true | .fits _ => false
theorem known_tmp (done : Done) (a : Act) (t : Tmp) : known done a (.tmp t) = match lk done t with | some (.is v) => v | some (.fits _) => undef | none => a.tmps.getD t undef := by
  simp only [known, factOf]
  cases lk done t with
  | none => rfl
  | some f => cases f <;> rfl
theorem known_const (done : Done) (a : Act) (v : Value) : known done a (.const v) = v := rfl
theorem known_func (done : Done) (a : Act) (f : FuncId) : known done a (.func f) = .func (.func f) #[] #[] := rfl
theorem known_global (done : Done) (a : Act) (g : Nat) : known done a (.global g) = .pointer (some ⟨g, 0, none⟩) := rfl
theorem known_facts {ρ : Operand → Value} {k : Nat} {w : World} : ∀ {xs : List Operand}, xs.all (isKnown done a) = true → factsHold done a ρ k w xs → ∀ x ∈ xs, ρ x = known done a x
  | [], _, _, x, hx => by cases hx
  | y :: r, hk, hf, x, hx => by
    simp only [List.all_cons, Bool.and_eq_true] at hk
    cases hx with
    | head =>
      have h1 := hf.1
      have h2 := hk.1
      unfold isKnown at h2
      unfold known
      cases hfx : factOf done a y with
      | is v => rw [hfx] at h1; exact h1
      | fits F => rw [hfx] at h2; cases h2
    | tail _ hm => exact known_facts hk.2 hf.2 x hm
def noSel : Op → Bool
  | .select .. => false
  | _ => true
theorem noSel_spec {op : Op} (h : noSel op = true) (cs : Array SelectCase) (b : Bool) : op ≠ .select cs b := by
  intro e; subst e; cases h
theorem known_exec {ρ : Operand → Value} {k : Nat} {w : World} (hs : noSel o.op = true) (hk : o.op.operands.toList.all (isKnown done a) = true) (hf : factsHold done a ρ k w o.op.operands.toList) : execOp ρ o = execOp (known done a) o :=
  execOp_congr o (noSel_spec hs) fun x hx => known_facts hk hf x (by simpa using hx)
def GuardYes (ops : Array Oper) (done : Done) (a : Act) (o : Oper) : Prop :=
  o.guard = none ∨ ∃ g want, o.guard = some (g, want) ∧ guardFact done a ops g = .is (.bool want)
theorem GuardYes.no (h : o.guard = none) : GuardYes ops done a o := .inl h
theorem GuardYes.yes {g : Nat} {want : Bool} (h : o.guard = some (g, want)) (hf : guardFact done a ops g = .is (.bool want)) : GuardYes ops done a o := .inr ⟨g, want, h, hf⟩
theorem StepOb.of {F : Fact} (hg : GuardYes ops done a o)
    (h : ∀ ρ k w, Φ.I b i k w → factsHold done a ρ k w o.op.operands.toList → okUpon P F (Φ.J i k) (Φ.next i k) w ((execOp ρ o).run P w)) : StepOb P ops a Φ b i done o F := by
  intro ρ k w hI hf
  rcases hg with hg | ⟨g, want, hg, hgf⟩
  · simp only [hg]
    exact h ρ k w hI hf
  · simp only [hg, hgf, Fact.holds]
    rintro vg rfl
    exact ⟨fun _ => h ρ k w hI hf, fun hn => absurd rfl hn⟩
theorem Walk.pure {v : Value} (hle : ∀ w, Φ.Le w w) (hch : Φ.chain.idxOf? i = none) (hg : GuardYes ops done a o) (hs : noSel o.op = true) (hk : o.op.operands.toList.all (isKnown done a) = true)
    (h : ∀ k w, Φ.I b i k w → (execOp (known done a) o).run P w = .ok (.value v) w)
    (hw : Walk P ops a Φ b Q (i + 1) ((o.dst, .is v) :: done) l) : Walk P ops a Φ b Q i done (o :: l) := by
  refine ⟨.is v, trivial, StepOb.of hg fun ρ k w hI hf => ?_, hw⟩
  simp only [known_exec hs hk hf, h k w hI, okUpon, Fact.holds, true_and]
  unfold Frames.J
  rw [hch]
  exact hle w
theorem Walk.skip {bb : Bool} {g : Nat} {want : Bool} (hle : ∀ w, Φ.Le w w) (hch : Φ.chain.idxOf? i = none) (hg : o.guard = some (g, want)) (hgf : guardFact done a ops g = .is (.bool bb)) (hb : bb ≠ want)
    (hw : Walk P ops a Φ b Q (i + 1) ((o.dst, .is undef) :: done) l) : Walk P ops a Φ b Q i done (o :: l) := by
  refine ⟨.is undef, trivial, fun ρ k w hI hf => ?_, hw⟩
  simp only [hg, hgf, Fact.holds]
  rintro vg rfl
  refine ⟨fun h => absurd (by injection h) hb, fun _ => ⟨trivial, ?_⟩⟩
  unfold Frames.J
  rw [hch]
  exact hle w
theorem Walk.call (F : Fact) (hst : F.stable Φ) (hg : GuardYes ops done a o) (hs : noSel o.op = true) (hk : o.op.operands.toList.all (isKnown done a) = true)
    (h : ∀ k w, Φ.I b i k w → okUpon P F (Φ.J i k) (Φ.next i k) w ((execOp (known done a) o).run P w))
    (hw : Walk P ops a Φ b Q (i + 1) ((o.dst, F) :: done) l) : Walk P ops a Φ b Q i done (o :: l) :=
  ⟨F, hst, StepOb.of hg fun ρ k w hI hf => by rw [known_exec hs hk hf]; exact h k w hI, hw⟩
theorem Walk.any (F : Fact) (hst : F.stable Φ) (hg : GuardYes ops done a o)
    (h : ∀ ρ k w, Φ.I b i k w → factsHold done a ρ k w o.op.operands.toList → okUpon P F (Φ.J i k) (Φ.next i k) w ((execOp ρ o).run P w))
    (hw : Walk P ops a Φ b Q (i + 1) ((o.dst, F) :: done) l) : Walk P ops a Φ b Q i done (o :: l) :=
  ⟨F, hst, StepOb.of hg h, hw⟩
end
end
end Go.Proofs.Ytcfbkhgdlgnmgaa.Vc
set_option linter.unusedVariables false
set_option linter.unusedSimpArgs false
namespace Go.Proofs.Ytcfbkhgdlgnmgaa.Vc
open Go.RowKit
section
variable {P : Program} {ops : Array Oper} {b : Array Nat} {chain : List Nat} {size : Nat}
theorem walk_gives_to {a : Act} {Φ : Frames} {Q : Act → World → Prop} {m : Nat} : ∀ (l : List Oper) (k : Nat) (Fs₀ : Nat → Fact), (∀ j, j < l.length → l[j]? = ops[k + j]?) → k + l.length = m → m ≤ ops.size →
    Walk P ops a Φ b Q k (doneOf ops Fs₀ k) l →
    ∃ Fs : Nat → Fact, (∀ j, j < k ∨ m ≤ j → Fs j = Fs₀ j) ∧ (∀ i o, k ≤ i → i < m → ops[i]? = some o → (Fs i).stable Φ ∧ StepOb P ops a Φ b i (doneOf ops Fs i) o (Fs i)) ∧
      ∀ w, Φ.G Φ.chain.length w → finish (fun a' => Q a' w) Φ.chain.length w (doneOf ops Fs m).reverse a
  | [], k, Fs₀, hl, hk, hm, h => by
    refine ⟨Fs₀, fun _ _ => rfl, fun i o hi him ho => ?_, ?_⟩
    · simp at hk
      omega
    · have hk' : k = m := by simpa using hk
      rw [← hk']
      exact h
  | o :: l, k, Fs₀, hl, hk, hmo, h => by
    have h0 : ops[k]? = some o := by simpa using (hl 0 (by simp)).symm
    obtain ⟨F, hst, hob, hw⟩ := h
    let Fs₁ : Nat → Fact := fun j => if j = k then F else Fs₀ j
    have hdone : ∀ m, m ≤ k → doneOf ops Fs₁ m = doneOf ops Fs₀ m := by
      intro m
      induction m with
      | zero => intro _; rfl
      | succ m ihm =>
        intro hm
        have : Fs₁ m = Fs₀ m := by simp [Fs₁, show m ≠ k by omega]
        simp only [doneOf, this, ihm (by omega)]
    have hstep : doneOf ops Fs₁ (k + 1) = (o.dst, F) :: doneOf ops Fs₀ k := by
      have : Fs₁ k = F := by simp [Fs₁]
      simp only [doneOf, this, hdone k (Nat.le_refl _), dstOf, h0, Option.bind_some]
    rw [← hstep] at hw
    obtain ⟨Fs, hsame, hall, hfin⟩ := walk_gives_to l (k + 1) Fs₁ (fun j hj => by have := hl (j + 1) (by simpa using hj); simpa [Nat.add_assoc, Nat.add_comm 1 j] using this) (by simp at hk; omega) hmo hw
    have hFk : Fs k = F := by rw [hsame k (.inl (by omega))]; simp [Fs₁]
    have hFd : ∀ m, m ≤ k → doneOf ops Fs m = doneOf ops Fs₀ m := by
      intro m
      induction m with
      | zero => intro _; rfl
      | succ m ihm =>
        intro hm
        have h1 : Fs m = Fs₀ m := by rw [hsame m (.inl (by omega))]; simp [Fs₁, show m ≠ k by omega]
        simp only [doneOf, h1, ihm (by omega)]
    refine ⟨Fs, fun j hj => ?_, fun i oi hi him hoi => ?_, hfin⟩
    · have hj' : j ≠ k := by simp at hk; omega
      rw [hsame j (by omega)]
      simp [Fs₁, hj']
    · by_cases hik : i = k
      · subst hik
        rw [h0] at hoi
        injection hoi with hoi
        subst hoi
        rw [hFk, hFd i (Nat.le_refl _)]
        exact ⟨hst, hob⟩
      · exact hall i oi (by omega) him hoi
theorem finish_gives_to {chain : List Nat} {a a' : Act} {st : Nat} {w : World} {Fs : Nat → Fact} {Q : Act → Prop} {m : Nat} (hm : m ≤ ops.size) (h : okB ops b chain a.tmps.size = true)
    (hsz : a'.tmps.size = a.tmps.size) (hdf : a'.defers = a.defers) (hbase : ∀ t, (∀ j, j < m → dstOf ops j ≠ some t) → a'.tmps[t]? = a.tmps[t]?)
    (hfacts : ∀ j d, j < m → dstOf ops j = some d → (Fs j).holds st (a'.tmps.getD d undef) w) :
    ∀ (n k : Nat) (x : Act), k + n = m → x.tmps.size = a.tmps.size → x.defers = a.defers →
      (∀ t, (∀ j, k ≤ j → j < m → dstOf ops j ≠ some t) → x.tmps[t]? = a'.tmps[t]?) →
      finish Q st w ((List.range' k n).map fun j => (dstOf ops j, Fs j)) x → Q a'
  | 0, k, x, hk, hs, hd, hx, hfin => by
    have : x = a' := by
      obtain ⟨xt, xd⟩ := x
      obtain ⟨at', ad⟩ := a'
      have e1 : xt = at' := Array.ext_getElem? fun t => hx t fun j h1 h2 => by omega
      have e2 : xd = ad := by simp at hd hdf; rw [hd, hdf]
      rw [e1, e2]
    rw [← this]
    exact hfin
  | n + 1, k, x, hk, hs, hd, hx, hfin => by
    simp only [List.range'_succ, List.map_cons] at hfin
    have step : ∀ d v, dstOf ops k = some d → a'.tmps.getD d undef = v → finish Q st w ((List.range' (k + 1) n).map fun j => (dstOf ops j, Fs j)) (x.put (some d) v) → Q a' := by
      intro d v hdk hv hf
      refine finish_gives_to hm h hsz hdf hbase hfacts n (k + 1) (x.put (some d) v) (by omega) (by rw [put_size]; exact hs) (by rw [put_defers_same]; exact hd) (fun t ht => ?_) hf
      by_cases htd : d = t
      · subst htd
        have hlt : d < x.tmps.size := by rw [hs]; exact dst_lt h hdk
        have hlt' : d < a'.tmps.size := by rw [hsz]; exact dst_lt h hdk
        simp only [Act.put]
        rw [Array.getElem?_setIfInBounds_self_of_lt hlt, ← hv]
        simp [hlt']
      · simp only [Act.put, Array.getElem?_setIfInBounds_ne htd]
        exact hx t fun j h1 h2 => by
          by_cases hjk : j = k
          · subst hjk; rw [hdk]; intro e; injection e with e; exact htd e
          · exact ht j (by omega) h2
    cases hdk : dstOf ops k with
    | none =>
      rw [hdk] at hfin
      simp only [finish] at hfin
      refine finish_gives_to hm h hsz hdf hbase hfacts n (k + 1) x (by omega) hs hd (fun t ht => hx t fun j h1 h2 => ?_) hfin
      by_cases hjk : j = k
      · subst hjk; rw [hdk]; intro e; cases e
      · exact ht j (by omega) h2
    | some d =>
      rw [hdk] at hfin
      have hf := hfacts k d (by omega) hdk
      cases hF : Fs k with
      | is v =>
        rw [hF] at hfin hf
        simp only [finish] at hfin
        exact step d v hdk hf hfin
      | fits F =>
        rw [hF] at hfin hf
        simp only [finish] at hfin
        exact step d _ hdk rfl (hfin _ hf)
def tailOk (ops : Array Oper) (b : Array Nat) (m : Nat) : Bool := (List.range ops.size).all fun i => Nat.blt i m || (List.range i).all fun j => bit b i j
theorem tailOk_at {m : Nat} (h : tailOk ops b m = true) {i j : Nat} (hi : i < ops.size) (hm : m ≤ i) (hj : j < i) : bit b i j = true := by
  simp only [tailOk, List.all_eq_true, List.mem_range, Bool.or_eq_true, Nat.blt_eq] at h
  rcases h i hi with h | h
  · omega
  · exact h j hj
theorem drop_cons_of {l : List Oper} {k : Nat} (h : k < l.length) : ∃ o, l[k]? = some o ∧ l.drop k = o :: l.drop (k + 1) :=
  ⟨l[k], List.getElem?_eq_getElem h, List.drop_eq_getElem_cons h⟩
theorem tail_any {Q : Exit → Act → World → Prop} {l : List Oper} {m : Nat} (h : okB l.toArray b chain size = true) (ht : tailOk l.toArray b m = true) :
    ∀ (n k : Nat) (listed : Array Bool) (a : Act) (w : World), k + n = l.length → m ≤ k → listed.size = l.length → (∀ j, j < l.length → listed.getD j false = decide (j < k)) →
      wpList P l.toArray Q (l.drop k) a w → wpAny P .any l.toArray Q n listed a w
  | 0, k, listed, a, w, hk, hmk, hs, hl, hw => by
    have e : l.drop k = [] := List.drop_eq_nil_of_le (by omega)
    rw [e] at hw
    refine ⟨?_, hw⟩
    cases hr : Region.ready .any l.toArray listed with
    | nil => rfl
    | cons x xs =>
      exfalso
      have hm : x ∈ Region.ready .any l.toArray listed := by rw [hr]; simp
      obtain ⟨hx, ox, hox, _⟩ := mem_ready.1 hm
      have hlt : x < l.length := by simpa using (Array.getElem?_eq_some_iff.1 hox).1
      have h1 := hl x hlt
      rw [listed_true hx] at h1
      simp at h1
      omega
  | n + 1, k, listed, a, w, hk, hmk, hs, hl, hw => by
    have hkl : k < l.length := by omega
    obtain ⟨o, ho, hd⟩ := drop_cons_of hkl
    have hoa : l.toArray[k]? = some o := by simpa using ho
    have hcl : Closed l.toArray fun i => listed.getD i false := by
      intro i oi hi hli e he hb
      have hil : i < l.length := by simpa using (Array.getElem?_eq_some_iff.1 hi).1
      have h1 := hl i hil
      simp only at hli ⊢
      rw [hli] at h1
      have h2 := edge_lt h hi he hb
      rw [hl e.on (by omega)]
      simp at h1 ⊢
      omega
    have hready : k ∈ Region.ready .any l.toArray listed := by
      refine mem_ready.2 ⟨?_, o, hoa, fun e he hb => ?_⟩
      · have := hl k hkl
        have hk' : k < listed.size := by omega
        simp [hk'] at this ⊢
        exact this
      · have h2 := edge_lt h hoa he hb
        rw [hl e.on (by omega)]
        simpa using h2
    refine ⟨fun hr => by rw [hr] at hready; simp at hready, fun i hi => ?_⟩
    obtain ⟨hun', oi, hoi, hall⟩ := mem_ready.1 hi
    have hun := listed_true hun'
    have hil : i < l.length := by simpa using (Array.getElem?_eq_some_iff.1 hoi).1
    have hik : i = k := by
      have h1 := hl i hil
      rw [hun] at h1
      have hki : k ≤ i := by simpa using h1.symm
      rcases Nat.lt_or_ge k i with hlt | hge
      · have hbit := tailOk_at ht (show i < l.toArray.size by rw [List.size_toArray]; exact hil) (by omega) hlt
        have := listed_of_bit h hcl k (show k < l.toArray.size by rw [List.size_toArray]; exact hkl) i oi hoi hall hbit
        rw [hl k hkl] at this
        simp at this
      · omega
    subst hik
    have next : ∀ a' w', wpList P l.toArray Q (l.drop (i + 1)) a' w' → wpAny P .any l.toArray Q n (listed.setIfInBounds i true) a' w' := fun a' w' hw' =>
      tail_any h ht n (i + 1) _ a' w' (by omega) (by omega) (by simpa using hs) (fun j hj => by
        by_cases hji : i = j
        · subst hji
          have : i < listed.size := by omega
          simp [this]
        · rw [getD_set_ne false hji, hl j hj]
          simp
          omega) hw'
    rw [hd] at hw
    have e : wpOp P l.toArray Q i (wpList P l.toArray Q (l.drop (i + 1))) a w := by
      unfold wpOp
      simp only [hoa]
      exact hw
    exact wpOp_mono next e
def Makes (P : Program) (o : Oper) : Prop := o.guard = none ∧ ∀ ρ w n w', (execOp ρ o).run P w = .ok n w' → n = .value (.pointer (some ⟨w.heap.size, 0, none⟩)) ∧ w.heap.size < w'.heap.size
def Apart (ops : Array Oper) (news : List Nat) (a : Act) : Prop := ∀ i ∈ news, ∀ j ∈ news, i ≠ j → ∀ d d', dstOf ops i = some d → dstOf ops j = some d' → a.tmps.getD d undef ≠ a.tmps.getD d' undef
structure Fresh (ops : Array Oper) (news : List Nat) (listed : Array Bool) (a : Act) (w : World) : Prop where
  at_ : ∀ i ∈ news, listed.getD i false = true → ∀ d, dstOf ops i = some d → ∃ g, a.tmps.getD d undef = .pointer (some ⟨g, 0, none⟩) ∧ g < w.heap.size
  apart : ∀ i ∈ news, ∀ j ∈ news, i ≠ j → listed.getD i false = true → listed.getD j false = true → ∀ d d', dstOf ops i = some d → dstOf ops j = some d' → a.tmps.getD d undef ≠ a.tmps.getD d' undef
theorem put_other {a : Act} {d d' : Nat} {v : Value} (h : d' ≠ d) : (a.put (some d') v).tmps.getD d undef = a.tmps.getD d undef := by
  simp only [Act.put, Array.getD_eq_getD_getElem?, Array.getElem?_setIfInBounds_ne h]
theorem put_self' {a : Act} {d : Nat} {v : Value} (h : d < a.tmps.size) : (a.put (some d) v).tmps.getD d undef = v := by
  simp [Act.put, h]
theorem Fresh.next {news : List Nat} {listed : Array Bool} {a : Act} {w w1 : World} {i : Nat} {o : Oper} {v : Value} (h : okB ops b chain size = true) (hs : a.tmps.size = size) (hF : Fresh ops news listed a w)
    (hi : ops[i]? = some o) (hz : w.heap.size ≤ w1.heap.size) (hv : i ∈ news → v = .pointer (some ⟨w.heap.size, 0, none⟩) ∧ w.heap.size < w1.heap.size) (hil : i < listed.size) :
    Fresh ops news (listed.setIfInBounds i true) (a.put o.dst v) w1 := by
  have hset : ∀ c, (listed.setIfInBounds i true).getD c false = true → c ≠ i → listed.getD c false = true := fun c hc hci => by
    rwa [getD_set_ne false (fun e => hci e.symm)] at hc
  have hdi : dstOf ops i = o.dst := by simp [dstOf, hi]
  have old : ∀ j d, j ≠ i → dstOf ops j = some d → (a.put o.dst v).tmps.getD d undef = a.tmps.getD d undef := by
    intro j d hj hd
    cases ho : o.dst with
    | none => rfl
    | some d' => exact put_other (fun e => hj (uniq h hd (by rw [hdi, ho, e])))
  have new : ∀ d, dstOf ops i = some d → (a.put o.dst v).tmps.getD d undef = v := by
    intro d hd
    rw [hdi] at hd
    rw [hd]
    exact put_self' (by rw [hs]; exact dst_lt h (hdi.trans hd))
  refine ⟨fun j hj hl d hd => ?_, fun j hj k hk hne hl hl' d d' hd hd' => ?_⟩
  · by_cases hji : j = i
    · subst hji
      obtain ⟨e, hlt⟩ := hv hj
      exact ⟨_, (new d hd).trans e, hlt⟩
    · obtain ⟨g, e, hlt⟩ := hF.at_ j hj (hset j hl hji) d hd
      exact ⟨g, (old j d hji hd).trans e, by omega⟩
  · by_cases hji : j = i
    · subst hji
      obtain ⟨e, hlt⟩ := hv hj
      obtain ⟨g, e', hlt'⟩ := hF.at_ k hk (hset k hl' (fun e => hne e.symm)) d' hd'
      rw [new d hd, old k d' (fun e => hne e.symm) hd', e, e']
      intro h0
      injection h0 with h0
      injection h0 with h0
      injection h0 with h0
      omega
    · by_cases hki : k = i
      · subst hki
        obtain ⟨e, hlt⟩ := hv hk
        obtain ⟨g, e', hlt'⟩ := hF.at_ j hj (hset j hl hji) d hd
        rw [new d' hd', old j d hji hd, e, e']
        intro h0
        injection h0 with h0
        injection h0 with h0
        injection h0 with h0
        omega
      · rw [old j d hji hd, old k d' hki hd']
        exact hF.apart j hj k hk hne (hset j hl hji) (hset k hl' hki) d d' hd hd'
theorem count_tail {listed : Array Bool} {m n : Nat} (hs : listed.size = n) (hm : m ≤ n) (hl : ∀ j, j < n → listed.getD j false = decide (j < m)) : listed.toList.count false = n - m := by
  have e : listed.toList = List.replicate m true ++ List.replicate (n - m) false := by
    apply List.ext_getElem
    · simp; omega
    · intro j h1 h2
      have hj : j < n := by simpa [hs] using h1
      have := hl j hj
      have hjl : j < listed.size := by omega
      simp [hjl] at this
      rw [List.getElem_append]
      split
      · rename_i h3
        simp at h3
        simp [this, h3]
      · rename_i h3
        simp at h3
        simp [this]
        omega
  rw [e, List.count_append, List.count_replicate, List.count_replicate]
  simp
theorem walk_split {a : Act} {Φ : Frames} {Fs : Nat → Fact} {Q : Exit → Act → World → Prop} {l : List Oper} {m : Nat} {news : List Nat} (hops : ops = l.toArray) (h : okB ops b Φ.chain a.tmps.size = true)
    (ht : tailOk ops b m = true) (hml : m ≤ l.length) (hcm : ∀ c ∈ Φ.chain, c < m) (hnm : ∀ i ∈ news, ∃ o, ops[i]? = some o ∧ Makes P o)
    (hsz : ∀ w w', Φ.Le w w' → w.heap.size ≤ w'.heap.size) (hszC : ∀ k w w', Φ.LeC k w w' → w.heap.size ≤ w'.heap.size) (hnews : ∀ i ∈ news, i < m)
    (hG : ∀ k w w', Φ.Le w w' → Φ.G k w → Φ.G k w') (hst : ∀ i o, ops[i]? = some o → (Fs i).stable Φ)
    (hob : ∀ i o, i < m → ops[i]? = some o → (Fs i).stable Φ ∧ StepOb P ops a Φ b i (doneOf ops Fs i) o (Fs i))
    (hfin : ∀ w, Φ.G Φ.chain.length w → finish (fun a' => Apart ops news a' → wpList P ops Q (l.drop m) a' w) Φ.chain.length w (doneOf ops Fs m).reverse a) :
    ∀ (fuel : Nat) (listed : Array Bool) (a' : Act) (w : World), listed.toList.count false = fuel → Inv ops a Φ Fs listed a' w → Fresh ops news listed a' w →
      (∀ i, m ≤ i → i < l.length → listed.getD i false = false) → wpAny P .any ops Q fuel listed a' w := by
  have hz0 : ops.size = l.length := by rw [hops, List.size_toArray]
  intro fuel
  induction fuel with
  | zero =>
    intro listed a' w hc hI hF hpre
    have hsl : listed.size = l.length := by rw [hI.lsize, hz0]
    by_cases hall : ∀ i, i < m → listed.getD i false = true
    · have hld : ∀ j, j < l.length → listed.getD j false = decide (j < m) := by
        intro j hj
        by_cases hjm : j < m
        · rw [hall j hjm]; simp [hjm]
        · rw [hpre j (by omega) hj]; simp [hjm]
      have hcnt := count_tail hsl hml hld
      have hcl : cnt Φ listed = Φ.chain.length := by
        have : (Φ.chain.filter fun c => listed.getD c false) = Φ.chain := List.filter_eq_self.2 fun c hc' => hall c (hcm c hc')
        unfold cnt
        rw [this]
      have hf := hfin w (hcl ▸ hI.stage)
      rw [doneOf_reverse] at hf
      have hf := finish_gives_to (Q := fun a' => Apart ops news a' → wpList P ops Q (l.drop m) a' w) (m := m) (by omega) h hI.size hI.defers
        (fun t ht' => hI.base t fun j hl e => by
          have hjl : j < l.length := by
            unfold dstOf at e
            obtain ⟨oj, hoj, _⟩ := Option.bind_eq_some_iff.1 e
            have := (Array.getElem?_eq_some_iff.1 hoj).1; omega
          rw [hld j hjl] at hl
          exact ht' j (by simpa using hl) e)
        (fun j d hj hd => hcl ▸ hI.facts j d (hall j hj) hd) m 0 a (by omega) rfl rfl
        (fun t ht' => (hI.base t fun j hl e => by
          have hjl : j < l.length := by
            unfold dstOf at e
            obtain ⟨oj, hoj, _⟩ := Option.bind_eq_some_iff.1 e
            have := (Array.getElem?_eq_some_iff.1 hoj).1; omega
          rw [hld j hjl] at hl
          exact ht' j (by omega) (by simpa using hl) e).symm) hf
      have hf := hf (fun i hi j hj hne d d' hd hd' => hF.apart i hi j hj hne (hall i (hnews i hi)) (hall j (hnews j hj)) d d' hd hd')
      subst hops
      exact tail_any h ht _ m listed a' w (by omega) (Nat.le_refl _) hsl hld hf
    · exfalso
      apply hall
      intro i hi
      cases hx : listed.getD i false with
      | true => rfl
      | false =>
        have := count_set (by omega) hx
        omega
  | succ fuel ih =>
    intro listed a' w hc hI hF hpre
    have hsl : listed.size = l.length := by rw [hI.lsize, hz0]
    by_cases hall : ∀ i, i < m → listed.getD i false = true
    · have hld : ∀ j, j < l.length → listed.getD j false = decide (j < m) := by
        intro j hj
        by_cases hjm : j < m
        · rw [hall j hjm]; simp [hjm]
        · rw [hpre j (by omega) hj]; simp [hjm]
      have hcnt := count_tail hsl hml hld
      have hcl : cnt Φ listed = Φ.chain.length := by
        have : (Φ.chain.filter fun c => listed.getD c false) = Φ.chain := List.filter_eq_self.2 fun c hc' => hall c (hcm c hc')
        unfold cnt
        rw [this]
      have hf := hfin w (hcl ▸ hI.stage)
      rw [doneOf_reverse] at hf
      have hf := finish_gives_to (Q := fun a' => Apart ops news a' → wpList P ops Q (l.drop m) a' w) (m := m) (by omega) h hI.size hI.defers
        (fun t ht' => hI.base t fun j hl e => by
          have hjl : j < l.length := by
            unfold dstOf at e
            obtain ⟨oj, hoj, _⟩ := Option.bind_eq_some_iff.1 e
            have := (Array.getElem?_eq_some_iff.1 hoj).1; omega
          rw [hld j hjl] at hl
          exact ht' j (by simpa using hl) e)
        (fun j d hj hd => hcl ▸ hI.facts j d (hall j hj) hd) m 0 a (by omega) rfl rfl
        (fun t ht' => (hI.base t fun j hl e => by
          have hjl : j < l.length := by
            unfold dstOf at e
            obtain ⟨oj, hoj, _⟩ := Option.bind_eq_some_iff.1 e
            have := (Array.getElem?_eq_some_iff.1 hoj).1; omega
          rw [hld j hjl] at hl
          exact ht' j (by omega) (by simpa using hl) e).symm) hf
      have hf := hf (fun i hi j hj hne d d' hd hd' => hF.apart i hi j hj hne (hall i (hnews i hi)) (hall j (hnews j hj)) d d' hd hd')
      subst hops
      exact tail_any h ht _ m listed a' w (by omega) (Nat.le_refl _) hsl hld hf
    · refine ⟨fun hr => absurd (fun i hi => ready_nil h hI hr i (by omega)) hall, fun i hm => ?_⟩
      obtain ⟨hun', o, hi, hall'⟩ := mem_ready.1 hm
      have hun := listed_true hun'
      have hlt : i < listed.size := by rw [hI.lsize]; exact (Array.getElem?_eq_some_iff.1 hi).1
      have hcount : (listed.setIfInBounds i true).toList.count false = fuel := by have := count_set hlt hun; omega
      have him : i < m := by
        rcases Nat.lt_or_ge i m with h' | h'
        · exact h'
        · exfalso
          apply hall
          intro j hj
          exact listed_of_bit h hI.closed j (by omega) i o hi hall' (tailOk_at ht (Array.getElem?_eq_some_iff.1 hi).1 h' (by omega))
      obtain ⟨_, hob'⟩ := hob i o him hi
      have hIi := stage_at h hI hi hun hall'
      have hfs := facts_all h hI hi hun hall' o.op.operands.toList (fun x hx => by simpa using hx)
      have hsteps := hob' a'.eval _ w hIi hfs
      have hmk : i ∈ news → ∀ n w', (execOp a'.eval o).run P w = .ok n w' → n = .value (.pointer (some ⟨w.heap.size, 0, none⟩)) ∧ w.heap.size < w'.heap.size := fun hi' => by
        obtain ⟨o', ho', hm'⟩ := hnm i hi'
        rw [hi] at ho'
        injection ho' with ho'
        subst ho'
        exact hm'.2 _ _
      have hng : i ∈ news → o.guard = none := fun hi' => by
        obtain ⟨o', ho', hm'⟩ := hnm i hi'
        rw [hi] at ho'
        injection ho' with ho'
        subst ho'
        exact hm'.1
      have hJz : ∀ w1, Φ.J i (cnt Φ listed) w w1 → w.heap.size ≤ w1.heap.size := fun w1 hJ => by
        unfold Frames.J at hJ
        cases hk : Φ.chain.idxOf? i with
        | none => rw [hk] at hJ; exact hsz _ _ hJ
        | some x => rw [hk] at hJ; exact hszC _ _ _ hJ.1
      have next : ∀ v w1, (Fs i).holds (Φ.next i (cnt Φ listed)) v w1 → Φ.J i (cnt Φ listed) w w1 → (i ∈ news → v = .pointer (some ⟨w.heap.size, 0, none⟩) ∧ w.heap.size < w1.heap.size) → wpAny P .any ops Q fuel (listed.setIfInBounds i true) (a'.put o.dst v) w1 := fun v w1 hFv hJ hv =>
        ih _ _ _ hcount (inv_next h hG hst hI hi hun hall' hFv hJ) (hF.next h hI.size hi (hJz w1 hJ) hv hlt) (fun j hj hjl => by rw [getD_set_ne false (by omega)]; exact hpre j hj hjl)
      have run : okUpon P (Fs i) (Φ.J i (cnt Φ listed)) (Φ.next i (cnt Φ listed)) w ((execOp a'.eval o).run P w) → Oper.wp P o a' w (wpAny P .any ops Q fuel (listed.setIfInBounds i true)) Q := by
        intro hok
        unfold Oper.wp
        generalize (execOp a'.eval o).run P w = r at *
        cases r with
        | ok n w1 =>
          cases n <;> simp only [okUpon] at hok <;> simp only [Oper.upon]
          case value v => exact next v w1 hok.1 hok.2 (fun hi' => by obtain ⟨e, hlt'⟩ := hmk hi' _ _ rfl; injection e with e; exact ⟨e, hlt'⟩)
          case skip => exact next undef w1 hok.1 hok.2 (fun hi' => by obtain ⟨e, _⟩ := hmk hi' _ _ rfl; cases e)
          case enter f args => exact hok.mono fun e w2 ⟨v, he, h1, h2⟩ => by subst he; exact next v w2 h1 h2 (fun hi' => by obtain ⟨e, _⟩ := hmk hi' _ _ rfl; cases e)
        | halt x w1 => simp only [okUpon] at hok
      unfold wpOp
      simp only [hi]
      cases hg : o.guard with
      | none =>
        simp only [hg] at hsteps
        simp only [Region.wanted, hg, if_true]
        exact .inl (run hsteps)
      | some gw =>
        obtain ⟨g, want⟩ := gw
        simp only [hg] at hsteps
        cases hd : dstOf ops g with
        | none =>
          have hy : yielded ops a'.tmps g = none := by simp only [dstOf] at hd; simp [yielded, hd]
          have hw : Region.wanted o (yielded ops a'.tmps) = false := by simp [Region.wanted, hg, hy]
          obtain ⟨_, h2⟩ := hsteps undef (by simp only [guardFact, hd]; rfl)
          obtain ⟨hF', hJ⟩ := h2 (undef_ne want)
          rw [hw]
          exact next undef w hF' hJ (fun hi' => by have := hng hi'; rw [hg] at this; cases this)
        | some d =>
          have hdt : d ∈ tmpsOf ops o := List.mem_append_right _ (by simp [hg, hd])
          have hfg := tmp_fact h hI hi hun hall' hdt
          obtain ⟨h1, h2⟩ := hsteps (a'.tmps.getD d undef) (by simp only [guardFact, hd]; exact hfg)
          have hd' := hd
          simp only [dstOf] at hd'
          by_cases hv : a'.tmps.getD d undef = .bool want
          · have hw : Region.wanted o (yielded ops a'.tmps) = true := by
              have : a'.tmps[d]? = some (.bool want) := by
                rcases Nat.lt_or_ge d a'.tmps.size with h' | h'
                · simp [h'] at hv ⊢; exact hv
                · simp [Array.getElem?_eq_none h'] at hv
                  exact absurd hv (undef_ne want)
              simp [Region.wanted, hg, yielded, hd', this]
            rw [hw]
            exact .inl (run (h1 hv))
          · have hw : Region.wanted o (yielded ops a'.tmps) = false := by
              simp only [Region.wanted, hg, yielded, hd', Option.bind_some]
              rcases Nat.lt_or_ge d a'.tmps.size with h' | h'
              · have hx : a'.tmps[d]? = some (a'.tmps.getD d undef) := by simp [h']
                rw [hx]
                cases hval : a'.tmps.getD d undef <;> simp_all
              · simp [Array.getElem?_eq_none h']
            obtain ⟨hF', hJ⟩ := h2 hv
            rw [hw]
            exact next undef w hF' hJ (fun hi' => by have := hng hi'; rw [hg] at this; cases this)
theorem wp_region_split {id : Nat} {l : List Oper} {a : Act} {w : World} {Q : Exit → Act → World → Prop} (Φ : Frames) (m : Nat) (news : List Nat) (hm : P.follows .mixedOrders = true)
    (h : okB l.toArray (Region.before l.toArray) Φ.chain a.tmps.size = true) (ht : tailOk l.toArray (Region.before l.toArray) m = true) (hml : m ≤ l.length) (hcm : ∀ c ∈ Φ.chain, c < m)
    (hnm : ∀ i ∈ news, ∃ o, l.toArray[i]? = some o ∧ Makes P o) (hnews : ∀ i ∈ news, i < m)
    (hsz : ∀ w w', Φ.Le w w' → w.heap.size ≤ w'.heap.size) (hszC : ∀ k w w', Φ.LeC k w w' → w.heap.size ≤ w'.heap.size)
    (hG : ∀ k w w', Φ.Le w w' → Φ.G k w → Φ.G k w') (h0 : Φ.G 0 w.drew)
    (hw : Walk P l.toArray a Φ (Region.before l.toArray) (fun a' w' => Apart l.toArray news a' → wpList P l.toArray Q (l.drop m) a' w') 0 [] (l.take m)) : (Code.region id l.toArray true).wp P Q a w := by
  refine wp_region_any hm ?_
  have hlt : (l.take m).length = m := by rw [List.length_take]; omega
  obtain ⟨Fs, hrest, hall, hfin⟩ := walk_gives_to (P := P) (ops := l.toArray) (b := Region.before l.toArray) (a := a) (Φ := Φ) (m := m) (l.take m) 0 (fun _ => .is undef) (fun j hj => by rw [hlt] at hj; simp [List.getElem?_take_of_lt hj]) (by omega) (by rw [List.size_toArray]; exact hml) hw
  refine walk_split rfl h ht hml hcm hnm hsz hszC hnews hG (fun i o hi => ?_) (fun i o him hi => hall i o (Nat.zero_le _) him hi) hfin _ _ a w.drew (by simp) ⟨by simp, fun i o hi hl => ?_, rfl, rfl, fun t _ => rfl, fun j d hl => ?_, ?_⟩ ⟨fun i _ hl => ?_, fun i _ j _ _ hl => ?_⟩ (fun i _ _ => rep_false _ _)
  · by_cases him : i < m
    · exact (hall i o (Nat.zero_le _) him hi).1
    · rw [hrest i (.inr (by omega))]
      trivial
  · exact absurd ((rep_false _ _).symm.trans hl) (by simp)
  · exact absurd ((rep_false _ _).symm.trans hl) (by simp)
  · have : (Φ.chain.filter fun c => (Array.replicate l.toArray.size false).getD c false) = [] := List.filter_eq_nil_iff.2 fun c _ => by rw [rep_false]; simp
    unfold cnt
    rw [this]
    exact h0
  · exact absurd ((rep_false _ _).symm.trans hl) (by simp)
  · exact absurd ((rep_false _ _).symm.trans hl) (by simp)
end
end Go.Proofs.Ytcfbkhgdlgnmgaa.Vc
set_option linter.unusedVariables false
set_option linter.unusedSimpArgs false
namespace Go.Proofs.Ytcfbkhgdlgnmgaa
open Go.RowKit Go.Maps Go.Sort
attribute [local go_sem] Vc.known_tmp Vc.known_const Vc.known_func Vc.known_global Vc.lk Vc.okUpon Vc.Fact.holds
theorem info_ch : (Try.prog.info? 70).map (fun i => (i.zero, i.size, i.bytes)) = some (some (.agg #[.string ByteArray.empty, .slice none 0 0, .bool false]), 3, 48) := by kernel_rfl
section
variable {X : Nat → Prop} {w w' : World} {p bn bk c : Nat} {A : Option Addr} {s : V}
theorem chCells_one (v : Value) (ch : Ch) (hv : v.oneCell' = true) : ∀ u ∈ chCells (v, ch), u.oneCell' = true := by
  intro u hu
  simp only [chCells, List.mem_cons, List.not_mem_nil, or_false] at hu
  rcases hu with rfl | rfl | rfl
  · rfl
  · exact hv
  · rfl
theorem Mem.appended (h : Mem w X p bn bk A c s) (hg : w.grownBy w' (blkOf A)) {X' : Nat → Prop} {A' : Option Addr} {c' : Nat} {l : List Ch} (hs : SinceAt w' X A' c' l) (hX : ∀ i, X i → X' i) (hx : ∀ g, blkOf A' = some g → X' g) (hl : ∀ i, X' i → i < w'.heap.size) :
    Mem (w'.setCell ⟨p, 2, none⟩ (.slice A' l.length c')) X' p bn bk A' c' { s with since := l } := by
  have hk := h.contOf hg (fun g e => .inr (.inr (.inr e)))
  have hpr : Row w' p 66 (vfsCells bn bk A c s) := (hg.block _ h.row.lt (fun e => h.p_ne_since e.symm rfl)).trans h.row
  have hn : FilesAt w' X bn s.now := h.now.keep (hg.block _ h.now.lt (fun e => h.now_ne_since e.symm rfl)) hk
  have hkp : FilesAt w' X bk s.kept := h.kept.keep (hg.block _ h.kept.lt (fun e => h.kept_ne_since e.symm rfl)) hk
  have hg2 := only_set w' p 2 (.slice A' l.length c')
  have hk2 : ∀ v xs, Cont w' X v xs → Cont (w'.setCell ⟨p, 2, none⟩ (.slice A' l.length c')) X' v xs := fun v xs hc =>
    hc.tr (Tr.of_grown (X := fun i => i = p) hg2 (fun g e => by injection e with e; exact e.symm)) (fun i _ _ hy _ e => by
      subst hy
      unfold Row at hpr
      rw [e] at hpr
      injection hpr with hpr
      injection hpr with _ hpr
      cases hpr) hX
  refine ⟨hpr.set 2 _, hn.keep (hg2.block _ hn.lt ?_) hk2, hkp.keep (hg2.block _ hkp.lt ?_) hk2, hs.keep hg2 ?_ hk2, h.ne, hX _ h.xp, hX _ h.xn, hX _ h.xk, hx, fun i hi => Nat.lt_of_lt_of_le (hl i hi) hg2.size⟩
  · intro e; injection e with e; exact h.p_ne_now e.symm
  · intro e; injection e with e; exact h.p_ne_kept e.symm
  · intro g hga e
    injection e with e
    obtain ⟨z, h1, h2, h3⟩ := hs
    rcases h3.2 with ⟨h0, _⟩ | ⟨g', rest, rfl, hb, hr, r⟩
    · rw [h0] at hga; cases hga
    · injection hga with hga
      subst hga
      exact hpr.ne hr (by decide) e
set_option maxHeartbeats 4000000 in
theorem done_any (h : Mem w X p bn bk A c s) (hok : s.Ok) (hs : Sm s) {ch : Ch} {v : Value} (hv : Cont w X v ch.b) (hn : ch.name.length ≤ 20) (hb : ch.b.length ≤ mostRoom) :
    Calls Try.prog 35 #[.pointer (some ⟨p, 0, none⟩), chV v ch] w fun e w' => e = .returned (.int .i64 (deadNo (s.done ch).dead)) ∧ ∃ X', At w' X' p (s.done ch) ∧ Mv w X w' X' := by
  obtain ⟨i0, hi, hz0, hz1, hz2⟩ := info_parts info_ch
  have hlen : s.now.length ≤ 1000000 := Nat.le_trans hok.nowL hs.ops
  have hsl : s.since.length ≤ 1000000 := by have := hok.keptL; have := hs.ops; omega
  obtain ⟨A0, n0, c0, rfl, hv'⟩ := id hv
  have hv := Lib.hid hv
  clear hv'
  have hrow := Row.new w 70 [encStr ch.name, .slice A0 n0 c0, .bool ch.gone]
  have hg1 := Gr.alloc1 w (.cells [encStr ch.name, .slice A0 n0 c0, .bool ch.gone].toArray 70)
  go_enter Try.func35, Try.ntmps35
  unfold chV
  go_wp2_with fail
  have hm := h.gr hg1
  have hnx : ¬ X w.heap.size := fun hx => absurd (h.lt _ hx) (by omega)
  have hv1 : Cont (w.alloc (.cells [encStr ch.name, .slice A0 n0 c0, .bool ch.gone].toArray 70)) X (.slice A0 n0 c0) ch.b := hv.out.tr (Tr.of_gr (X := fun _ => False) hg1) (fun _ _ _ hf => hf.elim) (fun _ h => h)
  have hM1 := Mv.of_gr hg1 X
  have hsz := hrow.lt
  generalize hg0 : w.heap.size = g0 at *
  generalize w.alloc (.cells #[encStr ch.name, .slice A0 n0 c0, .bool ch.gone] 70) = w1 at *
  have hm := hm.gr (Gr.draw w1)
  have hM1 := hM1.trans (Mv.of_gr (Gr.draw w1) X)
  have hrow := hrow.drew
  have hv1 : Cont w1.drew X (.slice A0 n0 c0) ch.b := hv1.tr (Tr.of_gr (X := fun _ => False) (Gr.draw w1)) (fun _ _ _ hf => hf.elim) (fun _ h => h)
  have HD := Lib.hid (do_any (ch := ch) hm.now hv1 hn hlen)
  have y0 := Lib.hid hm.cells.1
  have y1 := Lib.hid (And.intro (hrow.cell 0) (And.intro (hrow.cell 1) (hrow.cell 2)))
  simp only [List.getElem?_cons_zero, List.getElem?_cons_succ] at y1
  unfold chV at HD
  refine Vc.wp_region_split ⟨fun W W' => W = W', fun _ W W' => W = W', fun _ W => W = w1.drew, []⟩ 5 [] (by kernel_rfl) (by kernel_rfl) (by kernel_rfl) (by decide) (by simp) (by simp) (by simp) (fun _ _ h => h ▸ Nat.le_refl _) (fun _ _ _ h => h ▸ Nat.le_refl _) (fun _ _ _ h h' => h ▸ h') rfl ?_
  repeat
    refine Vc.Walk.pure (v := ?_) (fun _ => rfl) rfl (by first | exact Vc.GuardYes.no rfl | exact Vc.GuardYes.yes rfl rfl) rfl rfl ?_ ?_
    rotate_left
    · intro _ W hI
      (obtain rfl := hI.g; clear hI; have q0 := y0.out; have q1 := y1.out.1; have q2 := y1.out.2.1; have q3 := y1.out.2.2)
      go_simp
      exact rfl
  rintro W rfl
  simp only [List.reverse_cons, List.reverse_nil, List.nil_append, List.cons_append, Vc.finish, Act.put, List.setIfInBounds_toArray, List.set_cons_zero, List.set_cons_succ]
  rintro _
  simp only [List.drop_succ_cons, List.drop_zero]
  go_wp2_with (go_at_call 51; (with_reducible refine HD.out.mono ?_); rintro e w2 ⟨rfl, hf2, hg2⟩)
  have hm2 := hm.now_turned hf2 hg2
  have hM2 : Mv w X w2 X := hM1.trans ⟨Tr.of_grown hg2 (fun g e => by injection e with e; exact e ▸ hm.xn), fun _ h => h, fun _ h => .inl h⟩
  have hrow2 : Row w2 g0 70 [encStr ch.name, .slice A0 n0 c0, .bool ch.gone] := hrow.only hg2 (fun e => hnx (e ▸ hm.xn))
  have hv2 := hm.contOf hg2 (fun g e => by injection e with e; exact .inr (.inl e.symm)) _ _ hv1
  clear HD y0 y1 hg2 hf2 hrow hv1 hM1 hm hv hg1 hsz
  have hm2 := hm2.gr (Gr.draw w2)
  have hM2 := hM2.trans (Mv.of_gr (Gr.draw w2) X)
  have hrow2 := hrow2.drew
  have hv2 : Cont w2.drew X (.slice A0 n0 c0) ch.b := hv2.tr (Tr.of_gr (X := fun _ => False) (Gr.draw w2)) (fun _ _ _ hf => hf.elim) (fun _ h => h)
  generalize hw3 : w2.drew = w3 at *
  obtain ⟨z, z1, z2, hown⟩ := id hm2.since
  have z1 : z.map (·.2) = s.since := z1
  have hgne : ∀ g, blkOf A = some g → g0 ≠ g := fun g hg e => hnx (e ▸ hm2.xs g hg)
  have hpne : ∀ g, blkOf A = some g → p ≠ g := fun g hg => hm2.p_ne_since hg
  have y0 := Lib.hid (show w3.cell? ⟨p, 2, none⟩ = some (.slice A s.since.length c) from hm2.cells.2.2.1)
  have y1 := Lib.hid (And.intro (hrow2.cell 0) (And.intro (hrow2.cell 1) (hrow2.cell 2)))
  simp only [List.getElem?_cons_zero, List.getElem?_cons_succ] at y1
  have hown := Lib.hid (show Own w3 0 70 3 A s.since.length c (z.flatMap chCells) from hown)
  generalize hxs : z.flatMap chCells = xs at *
  generalize hnn : s.since.length = n at *
  subst hw3
  refine Vc.wp_region_split ⟨Gr, fun _ W W' => W.grownBy W' (blkOf A), fun k W => w2.drew.grownBy W (blkOf A) ∧ Own W 0 70 3 A n c xs ∧ (k = 0 → Gr w2.drew W), [7]⟩ 10 [] (by kernel_rfl) (by kernel_rfl) (by kernel_rfl) (by decide) (by simp) (by simp) (by simp) (fun _ _ h => h.size) (fun _ _ _ h => h.size) (fun _ _ _ h h' => ⟨only_trans h'.1 (only_of_gr h _), h'.2.1.gr h, fun e => (h'.2.2 e).trans' h⟩) ⟨only_refl _ _, hown.out, fun _ => Gr.rfl' _⟩ ?_
  repeat
    refine Vc.Walk.pure (v := ?_) (fun _ => Gr.rfl' _) rfl (by first | exact Vc.GuardYes.no rfl | exact Vc.GuardYes.yes rfl rfl) rfl rfl ?_ ?_
    rotate_left
    · intro _ W hI
      (have q := hI.g.1; clear hI; have q0 := q.cell y0.out (fun e => hpne _ e.symm rfl); have q1 := q.cell y1.out.1 (fun e => hgne _ e.symm rfl); have q2 := q.cell y1.out.2.1 (fun e => hgne _ e.symm rfl); have q3 := q.cell y1.out.2.2 (fun e => hgne _ e.symm rfl); clear q)
      go_simp
      exact rfl
  refine Vc.Walk.any (.fits (Vc.At 0 fun v W => ∃ g, v = .slice (some ⟨g, 0, none⟩) 1 1 ∧ Rd W (some ⟨g, 0, none⟩) [encStr ch.name, .slice A0 n0 c0, .bool ch.gone])) (Vc.At.stable (fun u W W' hl hf => by obtain ⟨g, e, h⟩ := hf; exact ⟨g, e, h.gr hl⟩)) (.no rfl) ?_ ?_
  · intro ρ k W hI hf
    have hk := hI.le 0 7 rfl (by kernel_rfl)
    obtain rfl : k = 0 := by omega
    have e1 : ρ (.tmp 16) = .agg #[encStr ch.name, .slice A0 n0 c0, .bool ch.gone] := hf.1
    clear hI hf
    go_simp
    exact ⟨⟨Nat.le_refl _, fun _ => ⟨_, rfl, Rd.new W [encStr ch.name, .slice A0 n0 c0, .bool ch.gone] _⟩⟩, Gr.alloc1 _ _⟩
  refine Vc.Walk.any (.fits (Vc.At 1 fun v W => ∃ A' c', v = .slice A' (n + 1) c' ∧ Own W 0 70 3 A' (n + 1) c' (xs ++ [encStr ch.name, .slice A0 n0 c0, .bool ch.gone]) ∧ ∀ g, blkOf A' = some g → blkOf A = some g ∨ w2.drew.heap.size ≤ g)) (Vc.At.stable (fun u W W' hl hf => by obtain ⟨A', c', e, h, h'⟩ := hf; exact ⟨A', c', e, h.gr hl, h'⟩)) (.no rfl) ?_ ?_
  · intro ρ k W hI hf
    obtain rfl := hI.eq 0 rfl
    have hg := hI.g
    obtain ⟨hρ1, ⟨_, hf1⟩, _⟩ := hf
    obtain ⟨g, hρ2, hrd⟩ := hf1 (Nat.le_refl _)
    have e1 : ρ (.tmp 15) = .slice A n c := hρ1
    have e2 : ρ (.tmp 17) = .slice (some ⟨g, 0, none⟩) 1 1 := hρ2
    obtain ⟨A3, c3, W', hrun, ho3, hk3⟩ := run_append (P := Try.prog) W 0 64 64 70 i0 _ 3 48 Try.underlying64 hi hz0 hz1 hz2 rfl (by omega) A n c xs hg.2.1 (some ⟨g, 0, none⟩) 1 1 _ rfl hrd (chCells_one (.slice A0 n0 c0) ch rfl) (by omega) (by unfold maxLen; omega) (Nat.zero_le _)
    have hgr := hg.2.2 rfl
    have hg1 := hg.1
    clear hI hf1 hρ1 hρ2
    unfold execOp
    simp only [resolve, invoke, builtin, Sem.run_bind, Sem.run_pure, Result.andThen_ok, List.map_toArray, List.map_cons, List.map_nil, e1, e2, hrun, Vc.okUpon]
    refine ⟨⟨Nat.le_refl _, fun _ => ⟨_, _, rfl, ho3, fun g' hg' => ?_⟩⟩, hk3.grown, only_trans hg1 hk3.grown, hg.2.1.back hk3.2.2, fun e => absurd e (by simp)⟩
    rcases hk3.2.1 with ⟨rfl, _⟩ | ⟨rfl, _⟩
    · exact .inl hg'
    · injection hg' with hg'
      exact .inr (hg' ▸ hgr.size)
  repeat
    refine Vc.Walk.pure (v := ?_) (fun _ => Gr.rfl' _) rfl (by first | exact Vc.GuardYes.no rfl | exact Vc.GuardYes.yes rfl rfl) rfl rfl ?_ ?_
    rotate_left
    · intro _ W hI
      (clear hI)
      go_simp
      exact rfl
  rintro W ⟨hgW, hoW, _⟩
  simp only [List.reverse_cons, List.reverse_nil, List.nil_append, List.cons_append, Vc.finish, Act.put, List.setIfInBounds_toArray, List.set_cons_zero, List.set_cons_succ]
  rintro u17 _ u18 ⟨_, hu⟩ _
  obtain ⟨A', c', rfl, ho3, hA'⟩ := hu (Nat.le_refl _)
  clear hu
  simp only [List.drop_succ_cons, List.drop_zero]
  have hpW := hgW.cell y0.out (fun e => hpne _ e.symm rfl)
  have hfW : W.frozen? ⟨p, 2, none⟩ = false := (Row.frozen ((hgW.block _ hm2.row.lt (fun e => hpne _ e.symm rfl)).trans hm2.row) 2)
  have hW2 : w2.drew.heap.size ≤ W.heap.size := hgW.size
  have hkW := hm2.contOf hgW (fun g e => .inr (.inr (.inr e)))
  have hs4 : SinceAt W X A' c' (s.since ++ [ch]) := by
    refine ⟨z ++ [(.slice A0 n0 c0, ch)], by simp [z1], fun q hq => ?_, ?_⟩
    · rcases List.mem_append.1 hq with hq | hq
      · exact hkW _ _ (z2 q hq)
      · obtain rfl : q = (.slice A0 n0 c0, ch) := by simpa using hq
        exact hkW _ _ hv2
    · have e1 : (z ++ [((Value.slice A0 n0 c0), ch)]).flatMap chCells = xs ++ [encStr ch.name, .slice A0 n0 c0, .bool ch.gone] := by rw [List.flatMap_append, hxs]; rfl
      have e2 : (s.since ++ [ch]).length = n + 1 := by simp [hnn]
      rw [e1, e2]
      exact ho3
  have hm4 := hm2.appended (X' := fun i => X i ∨ blkOf A' = some i) hgW hs4 (fun _ h => .inl h) (fun g hg => .inr hg) (fun i hi => by
    rcases hi with hi | hi
    · exact Nat.lt_of_lt_of_le (hm2.lt i hi) hW2
    · exact (ho3.blk i hi).2)
  have e2 : (s.since ++ [ch]).length = n + 1 := by simp [hnn]
  rw [e2] at hm4
  have hM4 : Mv w X (W.setCell ⟨p, 2, none⟩ (.slice A' (n + 1) c')) (fun i => X i ∨ blkOf A' = some i) := by
    refine hM2.trans ⟨?_, fun _ h => .inl h, fun i hi => ?_⟩
    · exact (Tr.of_grown (X := X) hgW (fun g e => hm2.xs g e)).trans (Tr.of_grown (X := X) (only_set W p 2 _) (fun g e => by injection e with e; exact e ▸ hm2.xp)) (fun _ _ h => h)
    · rcases hi with hi | hi
      · exact .inl hi
      · rcases hA' i hi with h1 | h1
        · exact .inl (hm2.xs i h1)
        · exact .inr h1
  have HS := Lib.hid (step_any hm4 ⟨hs.ops, hs.stop⟩)
  have hres : (V.step { ({ s with now := ch.act s.now } : V) with since := s.since ++ [ch] }) = s.done ch := rfl
  rw [hres] at HS
  have hok2 := ok_done hok hn hb
  generalize hs5 : s.done ch = s5 at *
  clear hm2 hm4 hs4 hkW hoW ho3 hown y0 y1 hrow2 hv2
  cases hd : s5.dead with
  | true =>
    rw [hd] at HS
    go_wp2_with (go_at_call 37; (with_reducible refine HS.out.mono ?_); rintro e w5 ⟨rfl, hm5, hg5⟩)
    go_ret
    subst hs5
    exact ⟨by rw [hd]; rfl, _, ⟨hok2, _, _, _, _, hm5⟩, hM4.trans ⟨Tr.of_grown hg5 (fun g e => by injection e with e; exact e ▸ hm5.xp), fun _ h => h, fun _ h => .inl h⟩⟩
  | false =>
    rw [hd] at HS
    go_wp2_with (go_at_call 37; (with_reducible refine HS.out.mono ?_); rintro e w5 ⟨rfl, hm5, hg5⟩)
    go_ret
    subst hs5
    exact ⟨by rw [hd]; rfl, _, ⟨hok2, _, _, _, _, hm5⟩, hM4.trans ⟨Tr.of_grown hg5 (fun g e => by injection e with e; exact e ▸ hm5.xp), fun _ h => h, fun _ h => .inl h⟩⟩
end
end Go.Proofs.Ytcfbkhgdlgnmgaa
set_option linter.unusedVariables false
set_option linter.unusedSimpArgs false
namespace Go.Proofs.Ytcfbkhgdlgnmgaa
open Go.RowKit Go.Maps Go.Sort
section
variable {X : Nat → Prop} {w w' : World} {p bn bk c : Nat} {A : Option Addr} {s : V}
theorem dead_any (h : At w X p s) : Calls Try.prog 45 #[.pointer (some ⟨p, 0, none⟩)] w fun e w' => e = .returned (.bool s.dead) ∧ w' = w := by
  obtain ⟨hok, bn, bk, A, c, h⟩ := h
  obtain ⟨c0, c1, c2, c3, c4, c5, c6⟩ := h.cells
  go_enter Try.func45, Try.ntmps45
  go_wp2
  go_ret
  exact ⟨rfl, rfl⟩
theorem ops_any (h : At w X p s) : Calls Try.prog 24 #[.pointer (some ⟨p, 0, none⟩)] w fun e w' => e = .returned (.int .i64 s.ops) ∧ w' = w := by
  obtain ⟨hok, bn, bk, A, c, h⟩ := h
  obtain ⟨c0, c1, c2, c3, c4, c5, c6⟩ := h.cells
  go_enter Try.func24, Try.ntmps24
  go_wp2
  go_ret
  exact ⟨rfl, rfl⟩
theorem room_any (h : At w X p s) : Calls Try.prog 59 #[.pointer (some ⟨p, 0, none⟩)] w fun e w' => e = .returned (.int .i64 s.room) ∧ w' = w := by
  obtain ⟨hok, bn, bk, A, c, h⟩ := h
  obtain ⟨c0, c1, c2, c3, c4, c5, c6⟩ := h.cells
  go_enter Try.func59, Try.ntmps59
  go_wp2
  go_ret
  exact ⟨rfl, rfl⟩
theorem toNat_max (n : Int) : ((n.toNat : Nat) : Int) = max n 0 := by omega
theorem stop_any (h : At w X p s) (n : Int) : Calls Try.prog 25 #[.pointer (some ⟨p, 0, none⟩), .int .i64 n] w fun e w' => e = .returned (.tuple #[]) ∧ At w' X p (s.stopAt n) ∧ Mv w X w' X := by
  obtain ⟨hok, bn, bk, A, c, h⟩ := h
  have f4 := h.frozen 4
  obtain ⟨c0, c1, c2, c3, c4, c5, c6⟩ := h.cells
  have hg := only_set w p 4 (.int .i64 (n.toNat : Nat))
  have key : At (w.setCell ⟨p, 4, none⟩ (.int .i64 (n.toNat : Nat))) X p (s.stopAt n) := ⟨ok_stopAt hok n, bn, bk, A, c, h.own_cells (by have hr := h.row.set 4 (.int .i64 (n.toNat : Nat)); simpa [vfsCells, V.stopAt] using hr) hg rfl rfl rfl⟩
  rw [toNat_max] at hg key
  go_enter Try.func25, Try.ntmps25
  go_wp2
  exact bodyPost_end (results_none rfl _ _ _) rfl ⟨rfl, key, Tr.of_grown hg (fun g e => by injection e with e; exact e ▸ h.xp), fun _ h => h, fun _ h => .inl h⟩
theorem roomOf_eq (r : Int) : ((roomOf r : Nat) : Int) = min (max r 0) 1048576 := by unfold roomOf mostRoom; omega
theorem new_any (r : Int) (w : World) : Calls Try.prog 16 #[.int .i64 r] w fun e w' => ∃ g X', e = .returned (.pointer (some ⟨g, 0, none⟩)) ∧ At w' X' g (V.new r) ∧ Gr w w' ∧ ∀ i, X' i → w.heap.size ≤ i := by
  have hr := roomOf_eq r
  have n1 := FilesAt.made w (fun i => w.heap.size ≤ i ∧ i < w.heap.size + 1 + 1 + 1)
  have n2 := FilesAt.made (w.alloc (.map #[] 0)) (fun i => w.heap.size ≤ i ∧ i < w.heap.size + 1 + 1 + 1)
  have hcells : vfsCells w.heap.size (w.heap.size + 1) none 0 (V.new r) = [.map (some w.heap.size), .map (some (w.heap.size + 1)), .slice none 0 0, .int .i64 (min (max r 0) 1048576), .int .i64 0, .int .i64 0, .bool false] := by
    simp [vfsCells, V.new, hr]
  have hrow := Row.new ((w.alloc (.map #[] 0)).alloc (.map #[] 0)) 66 (vfsCells w.heap.size (w.heap.size + 1) none 0 (V.new r))
  rw [hcells] at hrow
  have hG1 : Gr (w.alloc (.map #[] 0)) ((w.alloc (.map #[] 0)).alloc (.map #[] 0)) := Gr.alloc1 _ _
  have hG2 := Gr.alloc1 ((w.alloc (.map #[] 0)).alloc (.map #[] 0)) (.cells [.map (some w.heap.size), .map (some (w.heap.size + 1)), .slice none 0 0, .int .i64 (min (max r 0) 1048576), .int .i64 0, .int .i64 0, .bool false].toArray 66)
  have mk := fun w => run_makeMap (P := Try.prog) 63 w
  go_enter Try.func16, Try.ntmps16
  go_wp2
  go_ret
  have hct : ∀ {W W' : World} {X : Nat → Prop}, Gr W W' → ∀ v xs, Cont W X v xs → Cont W' X v xs := fun hg v xs hc => hc.tr (Tr.of_gr (X := fun _ => False) hg) (fun _ _ _ hf => hf.elim) (fun _ h => h)
  refine ⟨w.heap.size + 1 + 1, fun i => w.heap.size ≤ i ∧ i < w.heap.size + 1 + 1 + 1, by simp, ⟨ok_new r, w.heap.size, w.heap.size + 1, none, 0, ?_⟩, (Gr.alloc1 w _).trans' (hG1.trans' hG2), fun i h => h.1⟩
  refine ⟨by rw [hcells]; simpa using hrow, ?_, ?_, SinceAt.nil _ _, by omega, ⟨by omega, by omega⟩, ⟨Nat.le_refl _, by omega⟩, ⟨by omega, by omega⟩, (fun g hg => by cases hg), fun i hi => by simp; omega⟩
  · exact n1.keep ((hG1.trans' hG2).block _ (by simp)) (hct (hG1.trans' hG2))
  · have := n2.keep (hG2.block _ (by simp)) (hct hG2)
    rw [show (w.alloc (.map #[] 0)).heap.size = w.heap.size + 1 by simp] at this
    exact this
def V.read (s : V) (n : Str) : Str × Bool × Int := if s.dead then ([], false, 15) else ((s.now.get n).getD [], (s.now.get n).isSome, 0)
theorem get_room (hok : s.Ok) (n : Str) : ((s.now.get n).getD []).length ≤ mostRoom := by
  cases h : s.now.get n with
  | none => simp
  | some b => exact (hok.nowB _ (get_some h)).2
theorem read_any (h : At w X p s) (n : Str) (hn : n.length ≤ maxLen) : Calls Try.prog 44 #[.pointer (some ⟨p, 0, none⟩), encStr n] w fun e w' =>
    ∃ A' m c', e = .returned (.tuple #[.slice A' m c', .bool (s.read n).2.1, .int .i64 (s.read n).2.2]) ∧ m = (s.read n).1.length ∧ Own w' w.heap.size 5 1 A' m c' ((s.read n).1.map bv) ∧ Gr w w' := by
  obtain ⟨hok, bn, bk, A, c, h⟩ := h
  obtain ⟨c0, c1, c2, c3, c4, c5, c6⟩ := h.cells
  cases hd : s.dead with
  | true =>
    have e1 : s.read n = ([], false, 15) := by simp [V.read, hd]
    rw [e1]
    rw [hd] at c6
    go_enter Try.func44, Try.ntmps44
    go_wp2
    go_ret3
    exact ⟨none, 0, 0, rfl, rfl, Own.nil _ _ _ _, Gr.rfl' _⟩
  | false =>
    have e1 : s.read n = ((s.now.get n).getD [], (s.now.get n).isSome, 0) := by simp [V.read, hd]
    rw [e1]
    rw [hd] at c6
    obtain ⟨A1, m1, cc, hc, hrun⟩ := h.now.look_ok hn
    have hl := hrun w rfl
    obtain ⟨A2, m2, c2', e2, hlen, hle, hcm, hrd⟩ := id hc
    injection e2 with e2 e3 e4
    subst e2 e3 e4
    have hm := get_room hok n
    have HC := Lib.hid (cloneB_any A1 m1 cc _ w hlen hrd.rd (by unfold mostRoom at hm; omega))
    clear hrun hc
    go_enter Try.func44, Try.ntmps44
    go_wp2_with (go_at_call 36; (with_reducible refine HC.out.mono ?_); rintro e w2 ⟨A', c', rfl, ho, hg⟩)
    go_ret3
    exact ⟨A', m1, c', rfl, hlen.symm, ho, hg⟩
end
end Go.Proofs.Ytcfbkhgdlgnmgaa
set_option linter.unusedVariables false
set_option linter.unusedSimpArgs false
namespace Go.Proofs.Ytcfbkhgdlgnmgaa
open Go.RowKit Go.Maps Go.Sort
theorem key_inv {key : Value} {kl : Lit} (h : keyOf Try.prog 9 key = some kl) : ∃ n : Str, key = encStr n := by
  cases key <;> simp [keyOf, Try.underlying9, mapKey] at h
  rename_i x
  exact ⟨x.data.toList, by simp [encStr]⟩
section
variable {X : Nat → Prop} {w w' : World} {p bn bk c : Nat} {A : Option Addr} {s : V}
set_option maxHeartbeats 1000000 in
theorem used_mem (h : Mem w X p bn bk A c s) (hok : s.Ok) (hs : s.now.used ≤ 4611686018427387904) :
    Calls Try.prog 34 #[.pointer (some ⟨p, 0, none⟩)] w fun e w' => e = .returned (.int .i64 (s.now.used : Nat)) ∧ Gr w w' := by
  obtain ⟨c0, c1, c2, c3, c4, c5, c6⟩ := h.cells
  have hown := h.now.owns
  have hsz := h.now.size
  generalize hD : (DataW.map ((Classical.choose h.now).map zent) : DataW Value) = D at hown hsz
  go_enter Try.func34, Try.ntmps34
  go_wp2_with (at_range; refine wpList_range_own _ rfl _ 63 rfl 9 29 keyed Try.underlying63 R1 bn s.now.length D rfl hown ?_; intro w0 hrg0 hg0 hs0)
  go_frame
  go_loopw [3] (fun i wr => ∃ (left : Lit → Bool) (cnt k : Nat), wr.ranges Try.prog 9 R1 bn w.heap.size s.now.length D left cnt ∧ i = .int .i64 k ∧ k + leftUsed s.now left = s.now.used ∧ Gr w wr) (fun _ wr => wr.rangeLeft bn w.heap.size)
  case atStart =>
    refine ⟨_, _, 0, hrg0, rfl, ?_, only_gr hg0⟩
    rw [Nat.zero_add]
    refine leftUsed_all _ fun q hq => ?_
    have h1 := (Classical.choose_spec h.now).1
    subst hD
    rw [zhas, h1]
    have : s.now.get q.1 = some q.2 := get_of_mem hok.now hq
    rw [this]
    rfl
  case round =>
    obtain ⟨left, cnt, k, hrg, rfl, hk, hG⟩ := hrel
    go_wp2_with (at_next; refine wpList_next_ranges _ rfl _ rfl 9 keyed R1 encStr (fun q : Option Addr × Nat × Nat => .slice q.1 q.2.1 q.2.2) (fun _ _ => key_inv) (fun _ _ hR => ⟨_, (Classical.choose_spec (R1_inv hR)).1⟩) bn w.heap.size s.now.length D left cnt rfl hrg ?_ ?_)
    · intro hc0 hl0
      go_wp2
      go_ret
      rw [leftUsed_none _ hl0] at hk
      exact ⟨by rw [← hk]; rfl, hG⟩
    · intro x qa qn qc kl y yp w1 cnt1 hkey hlk hR hat hrg1 hlt hg1 hs1 hen
      have hR2 : y = .held (.slice qa qn qc) := by
        obtain ⟨_, _, e⟩ := R1_inv hR
        exact congrArg Prod.fst e
      subst hD
      obtain ⟨m, b, e1, hm, hct⟩ := h.now.entry (fun d => (hat d).trans hR2) (keyed.key hkey)
      subst e1
      obtain ⟨A2, n2, c2', e2, hlen, hle, hcm, hrd⟩ := id hct
      injection e2 with e2 e3 e4
      subst e2 e3 e4
      have hstep := leftUsed_step hok.now hm hlk
      have hub := used_ge hm
      have hk2 : k + qn ≤ s.now.used := by omega
      go_wp2
      go_roundw
      case rel =>
        refine ⟨_, cnt1, k + qn, hrg1, by simp, ?_, Below.grown hG hg1 hG.size (fun g hg => by cases hg; exact Nat.le_refl _)⟩
        omega
      case measure => rw [hrg1.left_eq, hrg.left_eq]; exact hlt
theorem used_any (h : At w X p s) (hs : Sm s) : Calls Try.prog 34 #[.pointer (some ⟨p, 0, none⟩)] w fun e w' => e = .returned (.int .i64 (s.now.used : Nat)) ∧ Gr w w' := by
  obtain ⟨hok, bn, bk, A, c, h⟩ := h
  have := used_small hok hs.ops
  exact used_mem h hok (by unfold mostRoom at this; omega)
theorem names_any (h : At w X p s) (hs : Sm s) : Calls Try.prog 23 #[.pointer (some ⟨p, 0, none⟩)] w fun e w' => ∃ A n c, e = .returned (.slice A n c) ∧ n = s.now.length ∧ Own w' w.heap.size 9 1 A n c ((s.now.map (·.1)).map encStr) ∧ Gr w w' := by
  obtain ⟨hok, bn, bk, A, c, h⟩ := h
  exact names_core w h.now hok.now (Nat.le_trans hok.nowL hs.ops) h.cells.1
set_option maxHeartbeats 1000000 in
theorem remove_any (h : At w X p s) (hs : Sm s) (n : Str) (hn : n.length ≤ maxLen) :
    Calls Try.prog 67 #[.pointer (some ⟨p, 0, none⟩), encStr n] w fun e w' => e = .returned (.int .i64 (s.remove n).2) ∧ ∃ X', At w' X' p (s.remove n).1 ∧ Mv w X w' X' := by
  have h' := h
  obtain ⟨hok, bn, bk, A, c, h⟩ := h
  obtain ⟨c0, c1, c2, c3, c4, c5, c6⟩ := h.cells
  cases hd : s.dead with
  | true =>
    have e1 : s.remove n = (s, 15) := by simp [V.remove, hd]
    rw [e1]
    rw [hd] at c6
    go_enter Try.func67, Try.ntmps67
    go_wp2
    go_ret
    exact ⟨rfl, X, h', Mv.rfl' _ _⟩
  | false =>
    rw [hd] at c6
    obtain ⟨A1, m1, cc, _, hrun⟩ := h.now.look_ok hn
    have hl := hrun w rfl
    cases hg : s.now.get n with
    | none =>
      have e1 : s.remove n = (s, 2) := by simp [V.remove, hd, hg]
      rw [e1]
      rw [hg] at hl
      simp only [Option.isSome_none] at hl
      clear hrun
      go_enter Try.func67, Try.ntmps67
      go_wp2
      go_ret
      exact ⟨rfl, X, h', Mv.rfl' _ _⟩
    | some b =>
      have e1 : s.remove n = (s.done ⟨n, [], true⟩, deadNo (s.done ⟨n, [], true⟩).dead) := by simp [V.remove, hd, hg]
      rw [e1]
      rw [hg] at hl
      simp only [Option.isSome_some] at hl
      have HD := Lib.hid (done_any (ch := ⟨n, [], true⟩) h hok hs (Cont.nil w X) (hok.nowB _ (get_some hg)).1 (Nat.zero_le _))
      unfold chV at HD
      clear hrun
      go_enter Try.func67, Try.ntmps67
      go_wp2_with (go_at_call 35; (with_reducible refine HD.out.mono ?_); rintro e w2 ⟨rfl, hr⟩)
      go_ret
      exact ⟨rfl, hr⟩
end
end Go.Proofs.Ytcfbkhgdlgnmgaa
set_option linter.unusedVariables false
set_option linter.unusedSimpArgs false
namespace Go.Proofs.Ytcfbkhgdlgnmgaa
open Go.RowKit Go.Maps Go.Sort
attribute [local go_sem] Vc.known_tmp Vc.known_const Vc.known_func Vc.known_global Vc.lk Vc.okUpon Vc.Fact.holds
section
variable {X : Nat → Prop} {w w' : World} {p bn bk c : Nat} {A : Option Addr} {s : V}
theorem Mem.with_new (h : Mem w X p bn bk A c s) (hg : Gr w w') {A' : Option Addr} (hlt : ∀ g, blkOf A' = some g → w.heap.size ≤ g ∧ g < w'.heap.size) :
    Mem w' (fun i => X i ∨ blkOf A' = some i) p bn bk A c s ∧ Mv w X w' (fun i => X i ∨ blkOf A' = some i) := by
  have h2 := h.gr hg
  refine ⟨h2.more (fun _ h => .inl h) (fun i hi => ?_), Tr.of_gr hg, fun _ h => .inl h, fun i hi => ?_⟩
  · rcases hi with hi | hi
    · exact h2.lt i hi
    · exact (hlt i hi).2
  · rcases hi with hi | hi
    · exact .inl hi
    · exact .inr (hlt i hi).1
set_option maxHeartbeats 4000000 in
theorem write_any (h : At w X p s) (hs : Sm s) (n : Str) (hn : n.length ≤ maxLen) (A2 : Option Addr) (n2 c2 : Nat) (b : Str) (hb : Hid (b.length = n2)) (hr : Rd w A2 (b.map bv)) (hl : n2 ≤ 1000000) :
    Calls Try.prog 17 #[.pointer (some ⟨p, 0, none⟩), encStr n, .slice A2 n2 c2] w fun e w' => e = .returned (.int .i64 (s.write n b).2) ∧ ∃ X', At w' X' p (s.write n b).1 ∧ Mv w X w' X' := by
  have h' := h
  obtain ⟨hok, bn, bk, A, c, h⟩ := h
  obtain ⟨c0, c1, cc2, c3, c4, c5, c6⟩ := h.cells
  have hsz : (⟨n.toArray⟩ : ByteArray).size = n.length := by simp [ByteArray.size]
  cases hd : s.dead with
  | true =>
    have e1 : s.write n b = (s, 15) := by simp [V.write, hd]
    rw [e1]
    rw [hd] at c6
    go_enter Try.func17, Try.ntmps17
    go_wp2
    go_ret
    exact ⟨rfl, X, h', Mv.rfl' _ _⟩
  | false =>
    rw [hd] at c6
    by_cases h0 : n = []
    · have e1 : s.write n b = (s, 12) := by simp [V.write, hd, h0]
      rw [e1]
      subst h0
      go_enter Try.func17, Try.ntmps17
      go_wp2
      go_ret
      exact ⟨rfl, X, h', Mv.rfl' _ _⟩
    · have hne : List.isEmpty n = false := by
        cases n with
        | nil => exact absurd rfl h0
        | cons x r => rfl
      by_cases h20 : 20 < n.length
      · have e1 : s.write n b = (s, 12) := by simp [V.write, hd, h20]
        rw [e1]
        have h20' : (20 : Int) < (n.length : Int) := by omega
        go_enter Try.func17, Try.ntmps17
        go_wp2
        go_ret
        exact ⟨rfl, X, h', Mv.rfl' _ _⟩
      · have h20' : ¬ (20 : Int) < (n.length : Int) := by omega
        obtain ⟨A1, m1, cc, hct, hrun⟩ := h.now.look hn
        obtain ⟨A1', m1', cc', e2, hlen, hle, hcm, hrd⟩ := id hct
        injection e2 with e2 e3 e4
        subst e2 e3 e4
        have hgu := get_le_used s.now n
        have husd := used_small hok hs.ops
        have hroom := hok.room
        unfold mostRoom at husd hroom
        have HU := Lib.hid (fun W hW => used_mem (w := W) (h.gr hW) hok (by omega))
        have hbl := h.now.lt
        rw [hlen] at hgu
        have hbn := hb.out
        have y0 := Lib.hid (And.intro c0 c3)
        have hrun := Lib.hid hrun
        clear c0 c1 cc2 c3 c4 c5 hct
        go_enter Try.func17, Try.ntmps17
        go_wp2_with fail
        refine Vc.wp_region_facts ⟨Gr, fun _ => Gr, fun _ W => Gr w W, []⟩ (by kernel_rfl) (by kernel_rfl) (fun _ _ _ h h' => h'.trans' h) (Gr.draw _) ?_
        repeat
          refine Vc.Walk.pure (v := ?_) (fun _ => Gr.rfl' _) rfl (by first | exact Vc.GuardYes.no rfl | exact Vc.GuardYes.yes rfl rfl) rfl rfl ?_ ?_
          rotate_left
          · intro _ W hI
            (clear hI)
            go_simp
            exact rfl
        refine Vc.Walk.call (.is (.int .i64 (s.now.used : Nat))) trivial (.no rfl) rfl rfl ?_ ?_
        · intro k W hI
          have hg := hI.g
          clear hI
          go_simp
          refine (HU.out W hg).mono ?_
          rintro e W' ⟨rfl, hg'⟩
          exact ⟨_, rfl, rfl, hg'⟩
        repeat
          refine Vc.Walk.pure (v := ?_) (fun _ => Gr.rfl' _) rfl (by first | exact Vc.GuardYes.no rfl | exact Vc.GuardYes.yes rfl rfl) rfl rfl ?_ ?_
          rotate_left
          · intro _ W hI
            (have q := hI.g; clear hI; have q0 := q.cell y0.out.1; have q3 := q.cell y0.out.2; have q1 := hrun.out W (q.block _ hbl); clear q)
            go_simp
            exact rfl
        intro W hW
        have hW : Gr w W := hW
        have hw1 : IntKind.i64.wrap ((s.now.used : Int) - (m1 : Int)) = (s.now.used : Int) - (m1 : Int) := by rw [IntKind.wrap_i64]; omega
        have hw2 : IntKind.i64.wrap ((s.now.used : Int) - (m1 : Int) + (n2 : Int)) = (s.now.used : Int) - (m1 : Int) + (n2 : Int) := by rw [IntKind.wrap_i64]; omega
        simp only [List.reverse_cons, List.reverse_nil, List.nil_append, List.cons_append, Vc.finish, Act.put, List.setIfInBounds_toArray, List.set_cons_zero, List.set_cons_succ]
        rw [hw1, hw2]
        clear hw1 hw2
        by_cases hf : s.room < s.now.used - m1 + n2
        · have e1 : s.write n b = (s, 14) := by
            simp only [V.write, hd, Bool.false_eq_true, if_false, h0, h20, or_self, hlen, hbn, if_pos hf]
          have hf' : (s.room : Int) < (s.now.used : Int) - (m1 : Int) + (n2 : Int) := by omega
          clear HU hrun
          go_wp2_with fail
          go_ret
          exact ⟨rfl, X, h'.gr hW, Mv.of_gr hW X⟩
        · have e1 : s.write n b = (s.done ⟨n, b, false⟩, deadNo (s.done ⟨n, b, false⟩).dead) := by
            simp only [V.write, hd, Bool.false_eq_true, if_false, h0, h20, or_self, hlen, hbn, if_neg hf]
          have hf' : ¬ (s.room : Int) < (s.now.used : Int) - (m1 : Int) + (n2 : Int) := by omega
          have HC := Lib.hid (cloneB_any A2 n2 c2 b W hbn (hr.gr hW) (by omega))
          have HD := Lib.hid (fun (W2 : World) (A' : Option Addr) (c' : Nat) (hg2 : Gr W W2) (ho : Own W2 W.heap.size 5 1 A' n2 c' (b.map bv)) =>
            (done_any (ch := ⟨n, b, false⟩) ((h.gr hW).with_new hg2 (fun g hg => ho.blk g hg)).1 hok hs (Cont.of_own ho (fun g hg => .inr hg)) (by simp only; omega) (by unfold mostRoom; simp only; omega)))
          unfold chV at HD
          clear HU hrun
          go_wp2_with (first
            | (go_at_call 36; (with_reducible refine HC.out.mono ?_); rintro e w2 ⟨A', c', rfl, ho, hg2⟩)
            | (go_at_call 35; (with_reducible refine (HD.out _ _ _ hg2 ho).mono ?_); rintro e w3 ⟨rfl, X', hX', hM'⟩))
          go_ret
          rw [e1]
          exact ⟨rfl, X', hX', (Mv.of_gr hW X).trans (((h.gr hW).with_new hg2 (fun g hg => ho.blk g hg)).2.trans hM')⟩
set_option maxHeartbeats 1000000 in
theorem flush_any (h : At w X p s) (hs : Sm s) :
    Calls Try.prog 18 #[.pointer (some ⟨p, 0, none⟩)] w fun e w' => e = .returned (.int .i64 s.flush.2) ∧ ∃ X', At w' X' p s.flush.1 ∧ Mv w X w' X' := by
  have h' := h
  obtain ⟨hok, bn, bk, A, c, h⟩ := h
  obtain ⟨c0, c1, cc2, c3, c4, c5, c6⟩ := h.cells
  have hok2 := ok_flush hok
  cases hd : s.dead with
  | true =>
    have e1 : s.flush = (s, 15) := by simp [V.flush, hd]
    rw [e1]
    rw [hd] at c6
    go_enter Try.func18, Try.ntmps18
    go_wp2
    go_ret
    exact ⟨rfl, X, h', Mv.rfl' _ _⟩
  | false =>
    rw [hd] at c6
    have HS := Lib.hid (step_any h hs)
    cases hsd : s.step.dead with
    | true =>
      have e1 : s.flush = (s.step, 15) := by simp [V.flush, hd, hsd]
      rw [e1]
      rw [hsd] at HS
      go_enter Try.func18, Try.ntmps18
      go_wp2_with (go_at_call 37; (with_reducible refine HS.out.mono ?_); rintro e w1 ⟨rfl, hm1, hg1⟩)
      go_ret
      exact ⟨rfl, X, ⟨ok_step hok, _, _, _, _, hm1⟩, Tr.of_grown hg1 (fun g e => by injection e with e; exact e ▸ h.xp), fun _ h => h, fun _ h => .inl h⟩
    | false =>
      have e1 : s.flush = ({ s.step with kept := s.now, since := [] }, 0) := by simp [V.flush, hd, hsd]
      rw [e1] at hok2 ⊢
      rw [hsd] at HS
      go_enter Try.func18, Try.ntmps18
      go_wp2_with (first
        | (go_at_call 37; (with_reducible refine HS.out.mono ?_); rintro e w1 ⟨rfl, hm1, hg1⟩
           have HC := Lib.hid (cloneM_any w1 hm1.now)
           have q0 := hm1.cells.1
           have f1 := hm1.frozen 1
           have f2 := hm1.frozen 2)
        | (go_at_call 38; (with_reducible refine HC.out.mono ?_); rintro e w2 ⟨rfl, hf2, hg2⟩
           have r1 := (hm1.gr hg2).frozen 1
           have r2 := (hm1.gr hg2).frozen 2
           obtain ⟨_, r3, r4, _⟩ := (hm1.gr hg2).cells))
      go_ret
      obtain ⟨hm2, hf3, hM2⟩ := hm1.cloned hg2 hf2
      have hm3 := hm2.set_kept hf3 (fun e => absurd (hm1.now.lt) (by omega)) (.inr rfl)
      have hm4 := hm3.set_since (SinceAt.nil _ _) (fun g hg => by cases hg)
      have hM1 : Mv w X w1 X := ⟨Tr.of_grown hg1 (fun g e => by injection e with e; exact e ▸ h.xp), fun _ h => h, fun _ h => .inl h⟩
      exact ⟨rfl, _, ⟨hok2, _, _, _, _, hm4⟩, ((hM1.trans hM2).own_set (.inl h.xp)).own_set (.inl h.xp)⟩
end
end Go.Proofs.Ytcfbkhgdlgnmgaa
set_option linter.unusedVariables false
set_option linter.unusedSimpArgs false
namespace Go.Proofs.Ytcfbkhgdlgnmgaa
open Go.RowKit Go.Maps Go.Sort
attribute [local go_sem] Vc.known_tmp Vc.known_const Vc.known_func Vc.known_global Vc.lk Vc.okUpon Vc.Fact.holds
theorem jump_mono {l : Nat} {J J' : Act → World → Prop} {Q : Exit → Act → World → Prop} (h : ∀ a w, J a w → J' a w) : ∀ e a w, Exit.jump l J Q e a w → Exit.jump l J' Q e a w := fun e a w hj => by
  cases e <;> first | exact hj | exact ⟨hj.1, h _ _ hj.2⟩
theorem scope_nat {P : Program} {a : Act} {w : World} {Q : Exit → Act → World → Prop} {c rest : Code} (l : Nat) (J : Nat → Act → World → Prop) (hf : findLabel c l = some rest)
    (first : c.wp P (Exit.jump l (fun a w => ∃ n, J n a w) Q) a w)
    (pass : ∀ n a w, J n a w → rest.wp P (Exit.jump l (fun a' w' => ∃ m, m < n ∧ J m a' w') Q) a w) : (Code.scope c).wp P Q a w := by
  intro b k cs
  have hg : gotoIn l (.inScope c :: k) = some (.code rest :: .inScope c :: k) := by simp [gotoIn, hf]
  have key : ∀ n a w, J n a w → ∃ e a' w', Q e a' w' ∧ Arrives P (lone (b.at a (.code rest :: .inScope c :: k)) cs w) b k cs e a' w' := by
    intro n
    induction n using Nat.strongRecOn with
    | _ n ih =>
      intro a w hJ
      obtain ⟨e, a₁, w₁, hq, harr⟩ := pass n a w hJ b (.inScope c :: k) cs
      cases e with
      | normal => exact ⟨.normal, a₁, w₁, hq, Steps.trans harr (.one step_inScope)⟩
      | exit id => exact ⟨.exit id, a₁, w₁, hq, fun k' hk => harr k' (by simp [exitTo, hk])⟩
      | goto l' =>
        obtain ⟨rfl, m, hlt, hJ'⟩ := hq
        obtain ⟨e₂, a₂, w₂, hq₂, harr₂⟩ := ih m hlt a₁ w₁ hJ'
        exact ⟨e₂, a₂, w₂, hq₂, .of_steps (harr _ hg) harr₂⟩
      | ret => exact ⟨_, a₁, w₁, hq, harr⟩
      | panic ch => exact ⟨_, a₁, w₁, hq, harr⟩
      | outgrown => exact ⟨_, a₁, w₁, hq, harr⟩
  obtain ⟨e, a₁, w₁, hq, harr⟩ := first b (.inScope c :: k) cs
  cases e with
  | normal => exact ⟨.normal, a₁, w₁, hq, .head step_scope (Steps.trans harr (.one step_inScope))⟩
  | exit id => exact ⟨.exit id, a₁, w₁, hq, fun k' hk => .head step_scope (harr k' (by simp [exitTo, hk]))⟩
  | goto l' =>
    obtain ⟨rfl, n, hJ'⟩ := hq
    obtain ⟨e₂, a₂, w₂, hq₂, harr₂⟩ := key n a₁ w₁ hJ'
    exact ⟨e₂, a₂, w₂, hq₂, .of_steps (.head step_scope (harr _ hg)) harr₂⟩
  | ret => exact ⟨_, a₁, w₁, hq, .of_steps (.one step_scope) harr⟩
  | panic ch => exact ⟨_, a₁, w₁, hq, .of_steps (.one step_scope) harr⟩
  | outgrown => exact ⟨_, a₁, w₁, hq, .of_steps (.one step_scope) harr⟩
theorem wp_scope_goto {P : Program} {a : Act} {w : World} {Q : Exit → Act → World → Prop} {c0 r : Code} (l : Nat) (J : Nat → Act → World → Prop) (hf : findLabel (c0.seq ((Code.label l).seq r)) l = some (Code.skip.seq r))
    (first : c0.wp P (fun e a w => e = .normal ∧ ∃ n, J n a w) a w)
    (pass : ∀ n a w, J n a w → r.wp P (Exit.jump l (fun a' w' => ∃ m, m < n ∧ J m a' w') Q) a w) : (Code.scope (c0.seq ((Code.label l).seq r))).wp P Q a w := by
  refine scope_nat l J hf (wp_seq (Code.wp_mono ?_ first)) fun n a w hJ => wp_seq (wp_skip (pass n a w hJ))
  rintro e a w ⟨rfl, n, hJ⟩
  exact wp_seq (wp_label (Code.wp_mono (jump_mono fun _ _ ⟨m, _, h⟩ => ⟨m, h⟩) (pass n a w hJ)))
theorem cons_of_len {α : Type} {l : List α} {n : Nat} (h : l.length = n + 1) : ∃ x r, l = x :: r ∧ r.length = n := by
  cases l with
  | nil => cases h
  | cons x r => exact ⟨x, r, rfl, by simpa using h⟩
theorem list65 {us : List Value} (h : us.length = 65) : ∃ u5 u6 u7 u8 u9 u10 u11 u12 u13 u14 u15 u16 u17 u18 u19 u20 u21 u22 u23 u24 u25 u26 u27 u28 u29 u30 u31 u32 u33 u34 u35 u36 u37 u38 u39 u40 u41 u42 u43 u44 u45 u46 u47 u48 u49 u50 u51 u52 u53 u54 u55 u56 u57 u58 u59 u60 u61 u62 u63 u64 u65 u66 u67 u68 u69 : Value, us = u5 :: u6 :: u7 :: u8 :: u9 :: u10 :: u11 :: u12 :: u13 :: u14 :: u15 :: u16 :: u17 :: u18 :: u19 :: u20 :: u21 :: u22 :: u23 :: u24 :: u25 :: u26 :: u27 :: u28 :: u29 :: u30 :: u31 :: u32 :: u33 :: u34 :: u35 :: u36 :: u37 :: u38 :: u39 :: u40 :: u41 :: u42 :: u43 :: u44 :: u45 :: u46 :: u47 :: u48 :: u49 :: u50 :: u51 :: u52 :: u53 :: u54 :: u55 :: u56 :: u57 :: u58 :: u59 :: u60 :: u61 :: u62 :: u63 :: u64 :: u65 :: u66 :: u67 :: u68 :: u69 :: [] := by
  obtain ⟨u5, us5, rfl, h5⟩ := cons_of_len h
  obtain ⟨u6, us6, rfl, h6⟩ := cons_of_len h5
  obtain ⟨u7, us7, rfl, h7⟩ := cons_of_len h6
  obtain ⟨u8, us8, rfl, h8⟩ := cons_of_len h7
  obtain ⟨u9, us9, rfl, h9⟩ := cons_of_len h8
  obtain ⟨u10, us10, rfl, h10⟩ := cons_of_len h9
  obtain ⟨u11, us11, rfl, h11⟩ := cons_of_len h10
  obtain ⟨u12, us12, rfl, h12⟩ := cons_of_len h11
  obtain ⟨u13, us13, rfl, h13⟩ := cons_of_len h12
  obtain ⟨u14, us14, rfl, h14⟩ := cons_of_len h13
  obtain ⟨u15, us15, rfl, h15⟩ := cons_of_len h14
  obtain ⟨u16, us16, rfl, h16⟩ := cons_of_len h15
  obtain ⟨u17, us17, rfl, h17⟩ := cons_of_len h16
  obtain ⟨u18, us18, rfl, h18⟩ := cons_of_len h17
  obtain ⟨u19, us19, rfl, h19⟩ := cons_of_len h18
  obtain ⟨u20, us20, rfl, h20⟩ := cons_of_len h19
  obtain ⟨u21, us21, rfl, h21⟩ := cons_of_len h20
  obtain ⟨u22, us22, rfl, h22⟩ := cons_of_len h21
  obtain ⟨u23, us23, rfl, h23⟩ := cons_of_len h22
  obtain ⟨u24, us24, rfl, h24⟩ := cons_of_len h23
  obtain ⟨u25, us25, rfl, h25⟩ := cons_of_len h24
  obtain ⟨u26, us26, rfl, h26⟩ := cons_of_len h25
  obtain ⟨u27, us27, rfl, h27⟩ := cons_of_len h26
  obtain ⟨u28, us28, rfl, h28⟩ := cons_of_len h27
  obtain ⟨u29, us29, rfl, h29⟩ := cons_of_len h28
  obtain ⟨u30, us30, rfl, h30⟩ := cons_of_len h29
  obtain ⟨u31, us31, rfl, h31⟩ := cons_of_len h30
  obtain ⟨u32, us32, rfl, h32⟩ := cons_of_len h31
  obtain ⟨u33, us33, rfl, h33⟩ := cons_of_len h32
  obtain ⟨u34, us34, rfl, h34⟩ := cons_of_len h33
  obtain ⟨u35, us35, rfl, h35⟩ := cons_of_len h34
  obtain ⟨u36, us36, rfl, h36⟩ := cons_of_len h35
  obtain ⟨u37, us37, rfl, h37⟩ := cons_of_len h36
  obtain ⟨u38, us38, rfl, h38⟩ := cons_of_len h37
  obtain ⟨u39, us39, rfl, h39⟩ := cons_of_len h38
  obtain ⟨u40, us40, rfl, h40⟩ := cons_of_len h39
  obtain ⟨u41, us41, rfl, h41⟩ := cons_of_len h40
  obtain ⟨u42, us42, rfl, h42⟩ := cons_of_len h41
  obtain ⟨u43, us43, rfl, h43⟩ := cons_of_len h42
  obtain ⟨u44, us44, rfl, h44⟩ := cons_of_len h43
  obtain ⟨u45, us45, rfl, h45⟩ := cons_of_len h44
  obtain ⟨u46, us46, rfl, h46⟩ := cons_of_len h45
  obtain ⟨u47, us47, rfl, h47⟩ := cons_of_len h46
  obtain ⟨u48, us48, rfl, h48⟩ := cons_of_len h47
  obtain ⟨u49, us49, rfl, h49⟩ := cons_of_len h48
  obtain ⟨u50, us50, rfl, h50⟩ := cons_of_len h49
  obtain ⟨u51, us51, rfl, h51⟩ := cons_of_len h50
  obtain ⟨u52, us52, rfl, h52⟩ := cons_of_len h51
  obtain ⟨u53, us53, rfl, h53⟩ := cons_of_len h52
  obtain ⟨u54, us54, rfl, h54⟩ := cons_of_len h53
  obtain ⟨u55, us55, rfl, h55⟩ := cons_of_len h54
  obtain ⟨u56, us56, rfl, h56⟩ := cons_of_len h55
  obtain ⟨u57, us57, rfl, h57⟩ := cons_of_len h56
  obtain ⟨u58, us58, rfl, h58⟩ := cons_of_len h57
  obtain ⟨u59, us59, rfl, h59⟩ := cons_of_len h58
  obtain ⟨u60, us60, rfl, h60⟩ := cons_of_len h59
  obtain ⟨u61, us61, rfl, h61⟩ := cons_of_len h60
  obtain ⟨u62, us62, rfl, h62⟩ := cons_of_len h61
  obtain ⟨u63, us63, rfl, h63⟩ := cons_of_len h62
  obtain ⟨u64, us64, rfl, h64⟩ := cons_of_len h63
  obtain ⟨u65, us65, rfl, h65⟩ := cons_of_len h64
  obtain ⟨u66, us66, rfl, h66⟩ := cons_of_len h65
  obtain ⟨u67, us67, rfl, h67⟩ := cons_of_len h66
  obtain ⟨u68, us68, rfl, h68⟩ := cons_of_len h67
  obtain ⟨u69, us69, rfl, h69⟩ := cons_of_len h68
  obtain rfl := List.eq_nil_of_length_eq_zero h69
  exact ⟨u5, u6, u7, u8, u9, u10, u11, u12, u13, u14, u15, u16, u17, u18, u19, u20, u21, u22, u23, u24, u25, u26, u27, u28, u29, u30, u31, u32, u33, u34, u35, u36, u37, u38, u39, u40, u41, u42, u43, u44, u45, u46, u47, u48, u49, u50, u51, u52, u53, u54, u55, u56, u57, u58, u59, u60, u61, u62, u63, u64, u65, u66, u67, u68, u69, rfl⟩
theorem crashF_nil (l : Files) (ks : List Int) : crashF l [] ks = l := by cases ks <;> rfl
theorem crashF_take : ∀ (cs : List Ch) (ks : List Int) (l : Files) (m : Nat), min ks.length cs.length ≤ m → crashF l (cs.take m) (ks.take m) = crashF l cs ks
  | [], ks, l, m, _ => by simp [crashF_nil]
  | c :: cs, [], l, m, _ => by simp [crashF]
  | c :: cs, k :: ks, l, 0, h => by simp at h
  | c :: cs, k :: ks, l, m + 1, h => by
    simp only [List.take_succ_cons, crashF]
    exact crashF_take cs ks _ m (by simp at h ⊢; omega)
def crashStep (l : Files) (c : Ch) (k : Int) : Files := if k = 1 then c.act l else if k = 2 then c.half.act l else l
theorem crashF_succ : ∀ (cs : List Ch) (ks : List Int) (l : Files) (i : Nat) (hc : i < cs.length) (hk : i < ks.length), crashF l (cs.take (i + 1)) (ks.take (i + 1)) = crashStep (crashF l (cs.take i) (ks.take i)) cs[i] ks[i]
  | [], ks, l, i, hc, hk => by simp at hc
  | c :: cs, [], l, i, hc, hk => by simp at hk
  | c :: cs, k :: ks, l, 0, hc, hk => by simp [crashF, crashF_nil, crashStep]
  | c :: cs, k :: ks, l, i + 1, hc, hk => by
    have := crashF_succ cs ks (if k = 1 then c.act l else if k = 2 then c.half.act l else l) i (by simpa using hc) (by simpa using hk)
    simp only [List.take_succ_cons, crashF, List.getElem_cons_succ] at this ⊢
    exact this
theorem Rd.spot {w : World} {A : Option Addr} {xs : List Value} (h : Rd w A xs) (h0 : 0 < xs.length) : ∃ b off, A = some ⟨b, off, none⟩ ∧ ∀ j u, xs[j]? = some u → w.cell? ⟨b, off + j, none⟩ = some u := by
  obtain ⟨ad, rfl, hc⟩ := h 0 _ (List.getElem?_eq_getElem h0)
  have hs : ad.spot = none := by
    unfold Addr.add at hc
    simp only [if_pos] at hc
    unfold World.cell? at hc
    cases hp : ad.spot with
    | none => rfl
    | some s =>
      rw [hp] at hc
      split at hc <;> simp at hc
  obtain ⟨b, off, sp⟩ := ad
  simp only at hs
  subst hs
  refine ⟨b, off, rfl, fun j u hu => ?_⟩
  obtain ⟨ad', e, hc'⟩ := h j u hu
  injection e with e
  subst e
  rw [add_plain'] at hc'
  exact hc'
section
variable {X : Nat → Prop} {w w' : World} {p bn bk c : Nat} {A : Option Addr} {s : V}
def V.at_ (s : V) (ks : List Int) (i : Nat) : V := { s with kept := crashF s.kept (s.since.take i) (ks.take i) }
set_option maxHeartbeats 8000000 in
theorem crash_any (h : At w X p s) (hs : Sm s) (B : Option Addr) (n cc : Nat) (ks : List Int) (hn : Hid (ks.length = n)) (hr : Rd w B (ks.map iv)) (hB : 0 < n → ∀ ad, B = some ad → ¬ X ad.block) (hl : n ≤ 9223372036854775807) :
    Calls Try.prog 26 #[.pointer (some ⟨p, 0, none⟩), .slice B n cc] w fun e w' => e = .returned (.tuple #[]) ∧ ∃ X', At w' X' p (s.crash ks) ∧ Mv w X w' X' := by
  have h' := h
  obtain ⟨hok, bn, bk, A, c, h⟩ := h
  have hok2 := ok_crash hok ks
  have hsl : s.since.length ≤ 1000000 := by have := hok.keptL; have := hs.ops; omega
  have hkl : s.kept.length + s.since.length ≤ 1000000 := Nat.le_trans hok.keptL hs.ops
  have hnn := hn.out
  go_enter Try.func26, Try.ntmps26
  refine wp_scope_goto 0 (fun k a' W => ∃ (i : Nat) (us : List Value), us.length = 65 ∧ a' = { tmps := (Value.pointer (some ⟨p, 0, none⟩) :: .slice B n cc :: undef :: undef :: .int .i64 (i : Nat) :: us).toArray, defers := [] } ∧ i ≤ min n s.since.length ∧ k + i = n ∧ Mem W X p bn bk A c (s.at_ ks i) ∧ Mv w X W X) rfl ?_ ?_
  · go_wp2
    refine ⟨n, 0, List.replicate 65 undef, rfl, ⟨rfl, rfl⟩, Nat.zero_le _, rfl, ?_, Mv.rfl' _ _⟩
    have : s.at_ ks 0 = s := by simp [V.at_, crashF_nil]
    rw [this]
    exact h
  · rintro k a' W ⟨i, us, hus, rfl, hi, hki, hm, hM⟩
    obtain ⟨u5, u6, u7, u8, u9, u10, u11, u12, u13, u14, u15, u16, u17, u18, u19, u20, u21, u22, u23, u24, u25, u26, u27, u28, u29, u30, u31, u32, u33, u34, u35, u36, u37, u38, u39, u40, u41, u42, u43, u44, u45, u46, u47, u48, u49, u50, u51, u52, u53, u54, u55, u56, u57, u58, u59, u60, u61, u62, u63, u64, u65, u66, u67, u68, u69, rfl⟩ := list65 hus
    clear hus
    obtain ⟨c0, c1, c2, c3, c4, c5, c6⟩ := hm.cells
    have hsl2 : (s.at_ ks i).since.length = s.since.length := rfl
    rw [hsl2] at c2
    by_cases hlt : i < min n s.since.length
    · have hlt' : ((i : Nat) : Int) < min (n : Int) (s.since.length : Int) := by omega
      have hil : i < s.since.length := by omega
      have hik : i < ks.length := by omega
      have hSA : SinceAt W X A c s.since := hm.since
      obtain ⟨g, v, rfl, hct, y0, y1, y2⟩ := hSA.at_ (i := i) hil
      have hcb := hok.sinceB s.since[i] (List.getElem_mem hil)
      generalize hch : s.since[i] = ch at *
      obtain ⟨A0, n0, k0, rfl, hlen, hle, hcm, hrd⟩ := id hct
      have i0 : (0 : Int) ≤ (i : Int) := by omega
      have i1 : (i : Int) < (s.since.length : Int) := by omega
      have i2 : (i : Int) < (n : Int) := by omega
      obtain ⟨kb, ko, rfl, hx⟩ := (hM.tr.rd hr (hB (by omega))).spot (by simp; omega)
      have hx : W.cell? ⟨kb, ko + i, none⟩ = some (.int .i64 ks[i]) := hx i _ (by rw [List.getElem?_map, List.getElem?_eq_getElem hik]; rfl)
      generalize hkk : ks[i] = kk at *
      have hx2 := (Gr.alloc1 W (.cells #[Value.string ⟨ch.name.toArray⟩, .slice A0 n0 k0, .bool ch.gone] 70)).cell hx
      have hkb : kb ≠ W.heap.size := Nat.ne_of_lt (World.block_lt_of_cell? W _ hx)
      clear c0 c3 c4 c5 c6
      have hkpl : (crashF s.kept (s.since.take i) (ks.take i)).length ≤ 1000000 := by
        have := (crashF_ok (s.since.take i) (ks.take i) s.kept hok.kept hok.keptB (fun c hc => hok.sinceB c (List.mem_of_mem_take hc))).2.2
        rw [List.length_take] at this
        omega
      have hst0 : s.at_ ks (i + 1) = { s.at_ ks i with kept := crashStep (crashF s.kept (s.since.take i) (ks.take i)) ch kk } := by
        unfold V.at_
        rw [crashF_succ _ _ _ _ hil hik, hch, hkk]
      by_cases hk1 : kk = 1
      · subst hk1
        have hst : ({ s.at_ ks i with kept := ch.act (crashF s.kept (s.since.take i) (ks.take i)) } : V) = s.at_ ks (i + 1) := by rw [hst0]; simp [crashStep]
        go_wp2_with fail
        have hrow := Row.new W 70 [encStr ch.name, .slice A0 n0 k0, .bool ch.gone]
        have hgr := Gr.alloc1 W (.cells [encStr ch.name, .slice A0 n0 k0, .bool ch.gone].toArray 70)
        have hv1 : Cont W X (.slice A0 n0 k0) ch.b := hct
        have hm1 := (hm.gr hgr).gr (Gr.draw _)
        have hM1 := hM.trans (Mv.of_gr (hgr.trans' (Gr.draw _)) X)
        have hv1 := hv1.tr (Y := fun _ => False) (X' := X) (Tr.of_gr (hgr.trans' (Gr.draw _))) (fun _ _ _ hf => hf.elim) (fun _ h => h)
        have hrow := hrow.drew
        clear hgr hx2
        generalize hgB : W.heap.size = gB at *
        generalize W.alloc (.cells #[.string ⟨ch.name.toArray⟩, .slice A0 n0 k0, .bool ch.gone] 70) = w1 at *
        have HD := Lib.hid (do_any (ch := ch) (l := crashF s.kept (s.since.take i) (ks.take i)) hm1.kept hv1 hcb.1 hkpl)
        unfold chV at HD
        have q1 := Lib.hid hm1.cells.2.1
        have qr := Lib.hid (And.intro (hrow.cell 0) (And.intro (hrow.cell 1) (hrow.cell 2)))
        simp only [List.getElem?_cons_zero, List.getElem?_cons_succ] at qr
        refine Vc.wp_region_split ⟨fun W W' => W = W', fun _ W W' => W = W', fun _ W => W = w1.drew, []⟩ 5 [] (by kernel_rfl) (by kernel_rfl) (by kernel_rfl) (by decide) (by simp) (by simp) (by simp) (fun _ _ h => h ▸ Nat.le_refl _) (fun _ _ _ h => h ▸ Nat.le_refl _) (fun _ _ _ h h' => h ▸ h') rfl ?_
        repeat
          refine Vc.Walk.pure (v := ?_) (fun _ => rfl) rfl (by first | exact Vc.GuardYes.no rfl | exact Vc.GuardYes.yes rfl rfl) rfl rfl ?_ ?_
          rotate_left
          · intro _ W hI
            (obtain rfl := hI.g; clear hI; have q0 := q1.out; have q2 := qr.out.1; have q3 := qr.out.2.1; have q4 := qr.out.2.2)
            go_simp
            exact rfl
        rintro V rfl
        simp only [List.reverse_cons, List.reverse_nil, List.nil_append, List.cons_append, Vc.finish, Act.put, List.setIfInBounds_toArray, List.set_cons_zero, List.set_cons_succ]
        rintro _
        simp only [List.drop_succ_cons, List.drop_zero]
        go_wp2_with (go_at_call 51; (with_reducible refine HD.out.mono ?_); rintro e w2 ⟨rfl, hf2, hg2⟩)
        have hend := hm1.kept_turned hf2 hg2
        go_step3
        rw [show ((i : Int) + 1) = ((i + 1 : Nat) : Int) by omega]
        rw [hst] at hend
        exact ⟨rfl, k - 1, by omega, i + 1, _ :: _ :: _ :: _ :: _ :: _ :: _ :: _ :: _ :: _ :: _ :: _ :: _ :: _ :: _ :: _ :: _ :: _ :: _ :: _ :: _ :: _ :: _ :: _ :: _ :: _ :: _ :: _ :: _ :: _ :: _ :: _ :: _ :: _ :: _ :: _ :: _ :: _ :: _ :: _ :: _ :: _ :: _ :: _ :: _ :: _ :: _ :: _ :: _ :: _ :: _ :: _ :: _ :: _ :: _ :: _ :: _ :: _ :: _ :: _ :: _ :: _ :: _ :: _ :: _ :: [], rfl, rfl, by omega, by omega, hend, hM1.trans ⟨Tr.of_grown hg2 (fun g e => by injection e with e; exact e ▸ h.xk), fun _ h => h, fun _ h => .inl h⟩⟩
      · have hk1' : (kk == 1) = false := by simpa using hk1
        by_cases hk2 : kk = 2
        · subst hk2
          have hst : ({ s.at_ ks i with kept := ch.half.act (crashF s.kept (s.since.take i) (ks.take i)) } : V) = s.at_ ks (i + 1) := by rw [hst0]; simp [crashStep]
          have hn0 : n0 ≤ 1048576 := by have := hcb.2; unfold mostRoom at this; omega
          have hq : wrap64 ((n0 : Int) / 2) = (n0 : Int) / 2 := by unfold wrap64; omega
          have hq1 : (0 : Int) ≤ (n0 : Int) / 2 := by omega
          have hq2 : (n0 : Int) / 2 ≤ (k0 : Int) := by omega
          go_wp2_with fail
          have hrow := Row.new W 70 [encStr ch.name, .slice A0 (n0 / 2) k0, .bool ch.gone]
          have hgr := Gr.alloc1 W (.cells [encStr ch.name, .slice A0 (n0 / 2) k0, .bool ch.gone].toArray 70)
          have hv1 : Cont W X (.slice A0 (n0 / 2) k0) ch.half.b := hct.half
          have hm1 := (hm.gr hgr).gr (Gr.draw _)
          have hM1 := hM.trans (Mv.of_gr (hgr.trans' (Gr.draw _)) X)
          have hv1 := hv1.tr (Y := fun _ => False) (X' := X) (Tr.of_gr (hgr.trans' (Gr.draw _))) (fun _ _ _ hf => hf.elim) (fun _ h => h)
          have hrow := hrow.drew
          clear hgr hx2
          generalize hgB : W.heap.size = gB at *
          generalize W.alloc (.cells #[.string ⟨ch.name.toArray⟩, .slice A0 (n0 / 2) k0, .bool ch.gone] 70) = w1 at *
          have HD := Lib.hid (do_any (ch := ch.half) (l := crashF s.kept (s.since.take i) (ks.take i)) hm1.kept hv1 hcb.1 hkpl)
          unfold chV at HD
          rw [show ch.half.name = ch.name from rfl, show ch.half.gone = ch.gone from rfl] at HD
          have q1 := Lib.hid hm1.cells.2.1
          have qr := Lib.hid (And.intro (hrow.cell 0) (And.intro (hrow.cell 1) (hrow.cell 2)))
          simp only [List.getElem?_cons_zero, List.getElem?_cons_succ] at qr
          refine Vc.wp_region_split ⟨fun W W' => W = W', fun _ W W' => W = W', fun _ W => W = w1.drew, []⟩ 5 [] (by kernel_rfl) (by kernel_rfl) (by kernel_rfl) (by decide) (by simp) (by simp) (by simp) (fun _ _ h => h ▸ Nat.le_refl _) (fun _ _ _ h => h ▸ Nat.le_refl _) (fun _ _ _ h h' => h ▸ h') rfl ?_
          repeat
            refine Vc.Walk.pure (v := ?_) (fun _ => rfl) rfl (by first | exact Vc.GuardYes.no rfl | exact Vc.GuardYes.yes rfl rfl) rfl rfl ?_ ?_
            rotate_left
            · intro _ W hI
              (obtain rfl := hI.g; clear hI; have q0 := q1.out; have q2 := qr.out.1; have q3 := qr.out.2.1; have q4 := qr.out.2.2)
              go_simp
              exact rfl
          rintro V rfl
          simp only [List.reverse_cons, List.reverse_nil, List.nil_append, List.cons_append, Vc.finish, Act.put, List.setIfInBounds_toArray, List.set_cons_zero, List.set_cons_succ]
          rintro _
          simp only [List.drop_succ_cons, List.drop_zero]
          go_wp2_with (go_at_call 51; (with_reducible refine HD.out.mono ?_); rintro e w2 ⟨rfl, hf2, hg2⟩)
          have hend := hm1.kept_turned hf2 hg2
          go_step3
          rw [show ((i : Int) + 1) = ((i + 1 : Nat) : Int) by omega]
          rw [hst] at hend
          exact ⟨rfl, k - 1, by omega, i + 1, _ :: _ :: _ :: _ :: _ :: _ :: _ :: _ :: _ :: _ :: _ :: _ :: _ :: _ :: _ :: _ :: _ :: _ :: _ :: _ :: _ :: _ :: _ :: _ :: _ :: _ :: _ :: _ :: _ :: _ :: _ :: _ :: _ :: _ :: _ :: _ :: _ :: _ :: _ :: _ :: _ :: _ :: _ :: _ :: _ :: _ :: _ :: _ :: _ :: _ :: _ :: _ :: _ :: _ :: _ :: _ :: _ :: _ :: _ :: _ :: _ :: _ :: _ :: _ :: _ :: [], rfl, rfl, by omega, by omega, hend, hM1.trans ⟨Tr.of_grown hg2 (fun g e => by injection e with e; exact e ▸ h.xk), fun _ h => h, fun _ h => .inl h⟩⟩
        · have hst : s.at_ ks i = s.at_ ks (i + 1) := by rw [hst0]; simp [crashStep, hk1, hk2]; rfl
          have hk2' : (kk == 2) = false := by simpa using hk2
          go_wp2_with fail
          have hgr := Gr.alloc1 W (.cells [encStr ch.name, .slice A0 n0 k0, .bool ch.gone].toArray 70)
          have hend := hm.gr hgr
          go_step3
          rw [show ((i : Int) + 1) = ((i + 1 : Nat) : Int) by omega]
          rw [hst] at hend
          exact ⟨rfl, k - 1, by omega, i + 1, _ :: _ :: _ :: _ :: _ :: _ :: _ :: _ :: _ :: _ :: _ :: _ :: _ :: _ :: _ :: _ :: _ :: _ :: _ :: _ :: _ :: _ :: _ :: _ :: _ :: _ :: _ :: _ :: _ :: _ :: _ :: _ :: _ :: _ :: _ :: _ :: _ :: _ :: _ :: _ :: _ :: _ :: _ :: _ :: _ :: _ :: _ :: _ :: _ :: _ :: _ :: _ :: _ :: _ :: _ :: _ :: _ :: _ :: _ :: _ :: _ :: _ :: _ :: _ :: _ :: [], rfl, rfl, by omega, by omega, hend, hM.trans (Mv.of_gr hgr X)⟩
    · have hlt' : ¬ ((i : Nat) : Int) < min (n : Int) (s.since.length : Int) := by omega
      have hfin : crashF s.kept (s.since.take i) (ks.take i) = crashF s.kept s.since ks := crashF_take _ _ _ _ (by omega)
      have hkept : FilesAt W X bk (crashF s.kept s.since ks) := by have := hm.kept; simp only [V.at_, hfin] at this; exact this
      have HC := Lib.hid (cloneM_any W hkept)
      clear c0 c3 c4 c5 c6
      go_wp2_with (go_at_call 38; (with_reducible refine HC.out.mono ?_); rintro e w2 ⟨rfl, hf2, hg2⟩
                   have hmg := hm.gr hg2
                   obtain ⟨r0, r1, r2, r3, r4, r5, r6⟩ := hmg.cells
                   have z0 := hmg.frozen 0
                   have z2 := hmg.frozen 2
                   have z4 := hmg.frozen 4
                   have z6 := hmg.frozen 6)
      simp only [Exit.jump]
      obtain ⟨hm2, hf3, hM2⟩ := hm.cloned hg2 hf2
      have hm3 := hm2.set_now hf3 (fun e => absurd hm.kept.lt (by omega)) (.inr rfl)
      have hm4 := hm3.set_since (SinceAt.nil _ _) (fun g hg => by cases hg)
      have hg4 := only_trans (only_set ((w2.setCell ⟨p, 0, none⟩ (.map (some W.heap.size))).setCell ⟨p, 2, none⟩ (.slice none 0 0)) p 4 (.int .i64 0)) (only_set _ p 6 (.bool false))
      have hm5 := hm4.own_cells (s' := s.crash ks) (by
        have hr := (hm4.row.set 4 (.int .i64 0)).set 6 (.bool false)
        simpa [vfsCells, V.crash, V.at_] using hr) hg4 rfl hfin.symm rfl
      exact bodyPost_end (results_none rfl _ _ _) rfl ⟨rfl, _, ⟨hok2, _, _, _, _, hm5⟩, ((((hM.trans hM2).own_set (.inl h.xp)).own_set (.inl h.xp)).own_set (.inl h.xp)).own_set (.inl h.xp)⟩
end
end Go.Proofs.Ytcfbkhgdlgnmgaa
set_option linter.unusedVariables false
set_option linter.unusedSimpArgs false
namespace Go.Proofs.Ytcfbkhgdlgnmgaa
open Go.RowKit Go.Maps Go.Sort
structure FlR where
  nm : Str
  q : Rw
def FlR.cells (f : FlR) : List Value := [encStr f.nm, .slice f.q.A f.q.n f.q.c]
def FlR.fl (f : FlR) : Fl := (f.nm, f.q.b)
structure FlS (w : World) (Z : Nat → Prop) (A : Option Addr) (rs : List FlR) : Prop where
  rd : Rd w A (rs.flatMap FlR.cells)
  zb : 0 < rs.length → ∀ ad, A = some ad → Z ad.block
  ok : ∀ f ∈ rs, f.q.Ok w ∧ f.nm.length ≤ maxLen ∧ (0 < f.q.n → ∀ ad, f.q.A = some ad → Z ad.block)
theorem cmf_len : ∀ l : List FlR, (l.flatMap FlR.cells).length = l.length * 2
  | [] => rfl
  | x :: r => by simp [List.flatMap_cons, FlR.cells, cmf_len r]; omega
theorem cmf_get : ∀ (l : List FlR) {i j : Nat} (h : i < l.length), j < 2 → (l.flatMap FlR.cells)[i * 2 + j]? = (l[i].cells)[j]?
  | x :: r, 0, j, h, hj => by
    rw [List.flatMap_cons, List.getElem?_append_left (by simp [FlR.cells]; omega)]
    simp
  | x :: r, i + 1, j, h, hj => by
    rw [List.flatMap_cons, List.getElem?_append_right (by simp [FlR.cells]; omega), show (i + 1) * 2 + j - (x.cells).length = i * 2 + j from by simp [FlR.cells]; omega]
    exact cmf_get r (by simpa using h) hj
section
variable {X Z : Nat → Prop} {w w' : World} {A : Option Addr} {rs : List FlR}
theorem FlS.at_ (h : FlS w Z A rs) {i : Nat} (hi : i < rs.length) : ∃ g off, A = some ⟨g, off, none⟩ ∧ w.cell? ⟨g, off + i * 2, none⟩ = some (encStr rs[i].nm) ∧ w.cell? ⟨g, off + i * 2 + 1, none⟩ = some (.slice rs[i].q.A rs[i].q.n rs[i].q.c) := by
  obtain ⟨g, off, rfl, hg⟩ := h.rd.spot (by rw [cmf_len]; omega)
  exact ⟨g, off, rfl, hg _ _ (cmf_get rs (j := 0) hi (by omega)), hg _ _ (cmf_get rs (j := 1) hi (by omega))⟩
theorem Tr.rd' {xs : List Value} (h : Tr X w w') (hr : Rd w A xs) (hX : 0 < xs.length → ∀ ad, A = some ad → ¬ X ad.block) : Rd w' A xs := by
  cases xs with
  | nil => exact Rd.nil _ _
  | cons x xs => exact h.rd hr (hX (by simp))
theorem Rw.Ok.tr {q : Rw} (h : q.Ok w) (t : Tr X w w') (hX : 0 < q.n → ∀ ad, q.A = some ad → ¬ X ad.block) : q.Ok w' :=
  ⟨h.len, t.rd' h.rd (fun h0 => hX (by rw [List.length_map] at h0; have := h.len.out; omega)), h.le, h.lec⟩
theorem FlS.tr (h : FlS w Z A rs) (t : Tr X w w') (hd : ∀ i, Z i → ¬ X i) : FlS w' Z A rs :=
  ⟨t.rd' h.rd (fun h0 ad e => hd _ (h.zb (by rw [cmf_len] at h0; omega) ad e)), h.zb, fun f hf => ⟨(h.ok f hf).1.tr t (fun h0 ad e => hd _ ((h.ok f hf).2.2 h0 ad e)), (h.ok f hf).2⟩⟩
theorem FlS.gr (h : FlS w Z A rs) (hg : Gr w w') : FlS w' Z A rs := h.tr (Tr.of_gr (X := fun _ => False) hg) (fun _ _ h => h)
theorem FlS.take (h : FlS w Z A rs) (k : Nat) : FlS w Z A (rs.take k) := by
  refine ⟨?_, fun h0 => h.zb (by rw [List.length_take] at h0; omega), fun f hf => h.ok f (List.mem_of_mem_take hf)⟩
  have e : (rs.take k).flatMap FlR.cells = (rs.flatMap FlR.cells).take (k * 2) := by
    have h1 : rs = rs.take k ++ rs.drop k := (List.take_append_drop k rs).symm
    by_cases hk : k ≤ rs.length
    · have h2 := congrArg (List.flatMap FlR.cells) h1
      rw [List.flatMap_append] at h2
      rw [h2, List.take_left' (by rw [cmf_len, List.length_take]; omega)]
    · rw [List.take_of_length_le (by omega), List.take_of_length_le (by rw [cmf_len]; omega)]
  rw [e]
  exact h.rd.take _
theorem FlS.mono {Z' : Nat → Prop} (h : FlS w Z A rs) (hz : ∀ i, Z i → Z' i) : FlS w Z' A rs :=
  ⟨h.rd, fun h0 ad e => hz _ (h.zb h0 ad e), fun f hf => ⟨(h.ok f hf).1, (h.ok f hf).2.1, fun h0 ad e => hz _ ((h.ok f hf).2.2 h0 ad e)⟩⟩
set_option maxHeartbeats 1000000 in
theorem twice_any (h : FlS w Z A rs) (x : Str) (c : Nat) (hl : rs.length ≤ 1000000) :
    Calls Try.prog 66 #[.slice A rs.length c, encStr x] w fun e w' => e = .returned (.bool (decide (x ∈ rs.map (·.nm)))) ∧ Gr w w' := by
  generalize hn : rs.length = n at hl ⊢
  go_enter Try.func66, Try.ntmps66
  go_wp2_with fail
  go_loopw [9] (fun i wr => ∃ j : Nat, j ≤ n ∧ i = .int .i64 j ∧ Hid (∀ i (h : i < rs.length), i < j → rs[i].nm ≠ x) ∧ Gr w wr) (fun i _ => n - (intOf i).toNat)
  case atStart => exact ⟨0, by omega, rfl, Lib.hid (fun i h h' => absurd h' (by omega)), Gr.rfl' _⟩
  case round =>
    obtain ⟨j, hj, rfl, hlo, hgr⟩ := hrel
    by_cases hlt : j < n
    · have hjl : j < rs.length := by omega
      obtain ⟨g, off, rfl, x0, x1⟩ := (h.gr hgr).at_ hjl
      by_cases he : rs[j].nm = x
      · have hg := Lib.hid (show decide (x ∈ rs.map (·.nm)) = true from decide_eq_true (List.mem_map.2 ⟨_, List.getElem_mem hjl, he⟩))
        rw [he] at x0
        go_wp2
        go_ret
        rw [hg.out]
        exact ⟨rfl, hgr.trans' (Gr.alloc1 _ _)⟩
      · have hf2 : (rs[j].nm == x) = false := by simpa using he
        have hlo2 := Lib.hid (show ∀ i (h : i < rs.length), i < j + 1 → rs[i].nm ≠ x from fun i h h' => by
          by_cases e : i = j
          · subst e; exact he
          · exact hlo.out i h (by omega))
        clear he
        generalize rs[j].nm = y at *
        go_wp2
        go_roundw
        case rel => exact ⟨j + 1, by omega, by go_num, hlo2, hgr.trans' (Gr.alloc1 _ _)⟩
        case measure => simp [intOf]; omega
    · obtain rfl : j = n := by omega
      have hg := Lib.hid (show decide (x ∈ rs.map (·.nm)) = false from decide_eq_false (fun hm => by
        obtain ⟨f, hf, e⟩ := List.mem_map.1 hm
        obtain ⟨i, hi, rfl⟩ := List.getElem_of_mem hf
        exact hlo.out i hi (by omega) e))
      go_wp2
      go_ret
      rw [hg.out]
      exact ⟨rfl, hgr⟩
end
end Go.Proofs.Ytcfbkhgdlgnmgaa
set_option linter.unusedVariables false
set_option linter.unusedSimpArgs false
namespace Go.Proofs.Ytcfbkhgdlgnmgaa
open Go.RowKit Go.Maps Go.Sort
structure FlO (w : World) (Zc : Nat → Prop) (B : Nat) (A : Option Addr) (n c : Nat) (rs : List FlR) : Prop where
  own : Own w B 31 2 A n c (rs.flatMap FlR.cells)
  ok : ∀ f ∈ rs, f.q.Ok w ∧ f.nm.length ≤ maxLen ∧ (0 < f.q.n → ∀ ad, f.q.A = some ad → Zc ad.block ∧ blkOf A ≠ some ad.block ∧ ad.block < w.heap.size)
theorem info_cfile : (Try.prog.info? 31).map (fun i => (i.zero, i.size, i.bytes)) = some (some (.agg #[.string ByteArray.empty, .slice none 0 0]), 2, 40) := by kernel_rfl
theorem Gr.grownBk {w w' w'' : World} {row : Option Nat} (h : Gr w w') (k : w'.grownBy w'' row) (hr : ∀ g, row = some g → w.heap.size ≤ g) : Gr w w'' :=
  ⟨k.os.trans h.os, k.tape.trans h.tape, k.output.trans h.output, Nat.le_trans h.size k.size, fun i hi => (k.block i (Nat.lt_of_lt_of_le hi h.size) (fun e => by have := hr i e.symm; omega)).trans (h.block i hi)⟩
theorem conv_new (w : World) (src dst e : TypeId) (b : Str) (hl : b.length ≤ maxLen) {P : Program} (hs : P.underlying src = some .string) (hd : P.underlying dst = some (.slice e)) (he : P.underlying e = some (.int .u8)) :
    ∃ c w', (convert src dst (.string ⟨b.toArray⟩)).run P w = .ok (.slice (some ⟨w.heap.size, 0, none⟩) b.length c) w' ∧ Gr w w' ∧ Rd w' (some ⟨w.heap.size, 0, none⟩) (b.map bv) ∧ b.length ≤ c ∧ c ≤ maxLen ∧ w'.heap.size = w.heap.size + 1 := by
  have hz : (⟨b.toArray⟩ : ByteArray).size = b.length := by simp [ByteArray.size]
  have hr := Lib.run_convert_string_bytes (P := P) w src dst e ⟨b.toArray⟩ hs hd he
  rw [hz] at hr
  refine ⟨_, _, hr, gr_bytes _ _ _, ?_, grownCap_ge _ _ _ _, grownCap_le_maxLen _ _ _ _ hl, Lib.bytesWorld_size _ _ _⟩
  simpa using rd_bytes w e ⟨b.toArray⟩
section
variable {X Zc : Nat → Prop} {w w' : World} {B n c n' c' : Nat} {A A' : Option Addr} {rs : List FlR}
theorem FlO.nil (w : World) (Zc : Nat → Prop) (B : Nat) : FlO w Zc B none 0 0 [] := ⟨Own.nil _ _ _ _, fun f hf => by cases hf⟩
theorem FlO.len (h : FlO w Zc B A n c rs) : rs.length = n := by have := h.own.1; rw [cmf_len] at this; omega
theorem Rw.Ok.gr {q : Rw} (h : q.Ok w) (hg : Gr w w') : q.Ok w' := ⟨h.len, h.rd.gr hg, h.le, h.lec⟩
theorem FlO.gr (h : FlO w Zc B A n c rs) (hg : Gr w w') : FlO w' Zc B A n c rs :=
  ⟨h.own.gr hg, fun f hf => ⟨(h.ok f hf).1.gr hg, (h.ok f hf).2.1, fun h0 ad e => by
    obtain ⟨h1, h2, h3⟩ := (h.ok f hf).2.2 h0 ad e
    exact ⟨h1, h2, Nat.lt_of_lt_of_le h3 hg.size⟩⟩⟩
theorem Rd.grown {row : Option Nat} {xs : List Value} (hr : Rd w A xs) (hg : w.grownBy w' row) (hne : 0 < xs.length → ∀ ad, A = some ad → row ≠ some ad.block) : Rd w' A xs := by
  intro j u hu
  obtain ⟨ad, rfl, hc⟩ := hr j u hu
  refine ⟨ad, rfl, ?_⟩
  have hb : (ad.add j).block = ad.block := block_of_add ad j
  have hlt := World.block_lt_of_cell? w _ hc
  have := hg.block _ hlt (by
    rw [hb]
    intro e
    exact hne (by have := (List.getElem?_eq_some_iff.1 hu).1; omega) ad rfl (by simpa using e.symm))
  rw [← hc]
  unfold World.cell?
  rw [this]
theorem Rw.Ok.grown {q : Rw} {row : Option Nat} (h : q.Ok w) (hg : w.grownBy w' row) (hne : 0 < q.n → ∀ ad, q.A = some ad → row ≠ some ad.block) : q.Ok w' :=
  ⟨h.len, h.rd.grown hg (fun h0 => hne (by rw [List.length_map] at h0; have := h.len.out; omega)), h.le, h.lec⟩
theorem FlO.keep {row : Option Nat} (h : FlO w Zc B A n c rs) (hg : w.grownBy w' row) (h1 : ∀ g, blkOf A = some g → row ≠ some g) (h2 : ∀ i, Zc i → row ≠ some i) : FlO w' Zc B A n c rs :=
  ⟨h.own.keep hg h1, fun f hf => ⟨(h.ok f hf).1.grown hg (fun h0 ad e => h2 _ ((h.ok f hf).2.2 h0 ad e).1), (h.ok f hf).2.1, fun h0 ad e => by
    obtain ⟨h1, h2, h3⟩ := (h.ok f hf).2.2 h0 ad e
    exact ⟨h1, h2, Nat.lt_of_lt_of_le h3 hg.size⟩⟩⟩
theorem FlO.push (h : FlO w Zc B A n c rs) {f : FlR} (hq : f.q.Ok w) (hn : f.nm.length ≤ maxLen) (hb : 0 < f.q.n → ∀ ad, f.q.A = some ad → Zc ad.block ∧ blkOf A ≠ some ad.block ∧ ad.block < w.heap.size)
    (ho : Own w' B 31 2 A' n' c' (rs.flatMap FlR.cells ++ f.cells)) (hk : AppK w w' A A' (rs.flatMap FlR.cells)) : FlO w' Zc B A' n' c' (rs ++ [f]) := by
  have hgw := hk.grown
  have key : ∀ f' : FlR, f'.q.Ok w → (0 < f'.q.n → ∀ ad, f'.q.A = some ad → Zc ad.block ∧ blkOf A ≠ some ad.block ∧ ad.block < w.heap.size) →
      f'.q.Ok w' ∧ (0 < f'.q.n → ∀ ad, f'.q.A = some ad → Zc ad.block ∧ blkOf A' ≠ some ad.block ∧ ad.block < w'.heap.size) := fun f' h1 h2 => by
    refine ⟨h1.grown hgw (fun h0 ad e => (h2 h0 ad e).2.1), fun h0 ad e => ?_⟩
    obtain ⟨k1, k2, k3⟩ := h2 h0 ad e
    refine ⟨k1, ?_, Nat.lt_of_lt_of_le k3 hgw.size⟩
    rcases hk.2.1 with ⟨e1, _⟩ | ⟨e1, _⟩
    · rw [e1]; exact k2
    · rw [e1]
      intro e2
      injection e2 with e2
      simp only at e2
      omega
  refine ⟨by rw [List.flatMap_append]; simpa using ho, fun f' hf' => ?_⟩
  rcases List.mem_append.1 hf' with hf' | hf'
  · have h1 := h.ok f' hf'
    obtain ⟨k1, k2⟩ := key f' h1.1 h1.2.2
    exact ⟨k1, h1.2.1, k2⟩
  · obtain rfl := List.mem_singleton.1 hf'
    obtain ⟨k1, k2⟩ := key f' hq hb
    exact ⟨k1, hn, k2⟩
theorem FlO.fls (h : FlO w Zc B A n c rs) : FlS w (fun i => (Zc i ∨ blkOf A = some i) ∧ i < w.heap.size) A rs :=
  ⟨h.own.rd, fun h0 ad e => by
    subst e
    exact ⟨.inr rfl, (h.own.blk _ rfl).2⟩, fun f hf => ⟨(h.ok f hf).1, (h.ok f hf).2.1, fun h0 ad e => ⟨.inl ((h.ok f hf).2.2 h0 ad e).1, ((h.ok f hf).2.2 h0 ad e).2.2⟩⟩⟩
end
end Go.Proofs.Ytcfbkhgdlgnmgaa
set_option linter.unusedVariables false
set_option linter.unusedSimpArgs false
set_option maxRecDepth 100000
namespace Go.Proofs.Ytcfbkhgdlgnmgaa
open Go.RowKit Go.Maps Go.Sort
attribute [local go_sem] Vc.known_tmp Vc.known_const Vc.known_func Vc.known_global Vc.lk Vc.okUpon Vc.Fact.holds
section
variable {Z : Nat → Prop} {w : World} {A : Option Addr} {rs : List FlR}
theorem mayGo_step {rs : List FlR} {j : Nat} (hj : j < rs.length) : mayGo ((rs.take j).map (·.nm)) ((rs.drop j).map FlR.fl) =
    if nameBad rs[j].nm = true then 12 else if rs[j].nm ∈ (rs.take j).map (·.nm) then 7 else if 8000 < rs[j].q.b.length then 5 else mayGo ((rs.take (j + 1)).map (·.nm)) ((rs.drop (j + 1)).map FlR.fl) := by
  rw [List.drop_eq_getElem_cons hj, List.map_cons]
  show mayGo _ ((rs[j].nm, rs[j].q.b) :: _) = _
  rw [mayGo, List.take_succ_eq_append_getElem hj, List.map_append]
  rfl
set_option maxHeartbeats 4000000 in
theorem may_any (h : FlS w Z A rs) (c : Nat) (hl : rs.length ≤ 255) (hc : rs.length ≤ c) (hb : ∀ f ∈ rs, f.q.n ≤ 1000000) :
    Calls Try.prog 40 #[.slice A rs.length c] w fun e w' => e = .returned (.int .i64 (mayM (rs.map FlR.fl))) ∧ Gr w w' := by
  obtain ⟨res, hres⟩ : ∃ r, mayM (rs.map FlR.fl) = r := ⟨_, rfl⟩
  rw [hres]
  have hres : (if rs.length < 1 ∨ 8 < rs.length then 1 else mayGo [] (rs.map FlR.fl)) = res := by rw [← hres]; unfold mayM; rw [List.length_map]
  have HRES := Lib.hid hres
  clear hres
  generalize hn : rs.length = n at hl hc HRES ⊢
  by_cases h1 : n < 1
  · have e := HRES.out
    rw [if_pos (.inl h1)] at e
    subst e
    have h1' : (n : Int) < 1 := by omega
    go_enter Try.func40, Try.ntmps40
    go_wp2
    go_ret
    exact ⟨rfl, Gr.rfl' _⟩
  by_cases h8 : 8 < n
  · have e := HRES.out
    rw [if_pos (.inr h8)] at e
    subst e
    have h1' : ¬ (n : Int) < 1 := by omega
    have h8' : (8 : Int) < n := by omega
    go_enter Try.func40, Try.ntmps40
    go_wp2
    go_ret
    exact ⟨rfl, Gr.rfl' _⟩
  have e := HRES.out
  rw [if_neg (by omega)] at e
  have HRE := Lib.hid e
  clear e HRES
  have h1' : ¬ (n : Int) < 1 := by omega
  have h8' : ¬ (8 : Int) < n := by omega
  go_enter Try.func40, Try.ntmps40
  go_wp2_with fail
  go_loopw [15] (fun i wr => ∃ j : Nat, j ≤ n ∧ i = .int .i64 j ∧ Hid (mayGo ((rs.take j).map (·.nm)) ((rs.drop j).map FlR.fl) = res) ∧ Gr w wr) (fun i _ => n - (intOf i).toNat)
  case atStart => exact ⟨0, by omega, rfl, Lib.hid HRE.out, Gr.rfl' _⟩
  case round =>
    obtain ⟨j, hj, rfl, hgo, hg⟩ := hrel
    by_cases hlt : j < n
    · have hjl : j < rs.length := by omega
      obtain ⟨g, off, rfl, x0, x1⟩ := (h.gr hg).at_ hjl
      have hs := hgo.out
      rw [mayGo_step hjl] at hs
      have hfk := h.ok _ (List.getElem_mem hjl)
      have hqb := hfk.1.len.out
      have hnl := hfk.2.1
      have hqn := hb _ (List.getElem_mem hjl)
      have HT := Lib.hid (fun W (hgW : Gr w W) => show Calls Try.prog 66 #[.slice (some ⟨g, off, none⟩) j c, encStr rs[j].nm] W fun e w' => e = .returned (.bool (decide (rs[j].nm ∈ (rs.take j).map (·.nm)))) ∧ Gr W w' from by
        have := twice_any ((h.gr hgW).take j) rs[j].nm c (by rw [List.length_take]; omega)
        rwa [show (rs.take j).length = j from by rw [List.length_take]; omega] at this)
      rw [hqb] at hs
      generalize rs[j].nm = nm at *
      generalize rs[j].q.n = qn at *
      generalize rs[j].q.A = qA at *
      generalize rs[j].q.c = qc at *
      have hsz : (⟨nm.toArray⟩ : ByteArray).size = nm.length := by simp [ByteArray.size]
      unfold maxLen at hnl
      clear hfk hqb hgo
      by_cases hnb : nameBad nm = true
      · rw [if_pos hnb] at hs
        subst hs
        unfold nameBad at hnb
        have hnb := of_decide_eq_true hnb
        by_cases b1 : nm = []
        · subst b1
          go_wp2_with fail
          go_ret
          exact ⟨rfl, hg.trans' (Gr.alloc1 _ _)⟩
        have c1 : List.isEmpty nm = false := by cases nm with | nil => exact absurd rfl b1 | cons _ _ => rfl
        by_cases b2 : 20 < nm.length
        · have c2 : (20 : Int) < (nm.length : Int) := by omega
          go_wp2_with fail
          go_ret
          exact ⟨rfl, hg.trans' (Gr.alloc1 _ _)⟩
        have c2 : ¬ (20 : Int) < (nm.length : Int) := by omega
        by_cases b3 : nm = jn
        · have c3 : (nm == [106, 111, 117, 114, 110, 97, 108]) = true := by simpa [jn] using b3
          go_wp2_with fail
          go_ret
          exact ⟨rfl, hg.trans' (Gr.alloc1 _ _)⟩
        have c3 : (nm == [106, 111, 117, 114, 110, 97, 108]) = false := by simpa [jn] using b3
        have b4 : nm = mk := by
          rcases hnb with h | h | h | h
          · exact absurd h b1
          · omega
          · exact absurd h b3
          · exact h
        have c4 : (nm == [109, 97, 114, 107]) = true := by simpa [mk] using b4
        clear b1 b3 b4 hnb
        go_wp2_with fail
        go_ret
        exact ⟨rfl, hg.trans' (Gr.alloc1 _ _)⟩
      · rw [if_neg hnb] at hs
        obtain ⟨b1, b2, b3, b4⟩ := nameBad_len (by simpa using hnb)
        have c1 : List.isEmpty nm = false := by cases nm with | nil => exact absurd rfl b1 | cons _ _ => rfl
        have c2 : ¬ (20 : Int) < (nm.length : Int) := by omega
        have c3 : (nm == [106, 111, 117, 114, 110, 97, 108]) = false := by simpa [jn] using b3
        have c4 : (nm == [109, 97, 114, 107]) = false := by simpa [mk] using b4
        have HS := Lib.hid hs
        obtain ⟨bb, hbb⟩ : ∃ b, decide (nm ∈ (rs.take j).map (·.nm)) = b := ⟨_, rfl⟩
        rw [hbb] at HT
        have HBB := Lib.hid hbb
        clear hs b1 b3 b4 hnb hbb
        go_wp2_with fail
        have hrow : Row (wr.alloc (.cells #[.string ⟨nm.toArray⟩, .slice qA qn qc] 31)) wr.heap.size 31 [encStr nm, .slice qA qn qc] := Row.new wr 31 [encStr nm, .slice qA qn qc]
        have hg1 : Gr wr (wr.alloc (.cells #[.string ⟨nm.toArray⟩, .slice qA qn qc] 31)) := Gr.alloc1 _ _
        generalize wr.alloc (.cells #[.string ⟨nm.toArray⟩, .slice qA qn qc] 31) = w1 at *
        generalize wr.heap.size = gb at *
        have hc0 := Lib.hid (show w1.cell? ⟨gb, 0, none⟩ = some (encStr nm) from hrow.cell 0)
        have hc1 := Lib.hid (show w1.cell? ⟨gb, 1, none⟩ = some (.slice qA qn qc) from hrow.cell 1)
        have hgw := Lib.hid (hg.trans' hg1)
        clear hrow hg1 x0 x1 hg
        refine Vc.wp_region_facts ⟨Gr, fun _ => Gr, fun _ W => Gr w1 W, []⟩ (by kernel_rfl) (by kernel_rfl) (fun _ _ _ h h' => h'.trans' h) (Gr.draw _) ?_
        repeat
          refine Vc.Walk.pure (v := ?_) (fun _ => Gr.rfl' _) rfl (by first | exact Vc.GuardYes.no rfl | exact Vc.GuardYes.yes rfl rfl) rfl rfl ?_ ?_
          rotate_left
          · intro _ W hI
            (have y0 := hI.g.cell hc0.out; clear hI)
            go_simp
            exact rfl
        refine Vc.Walk.pure (v := ?_) (fun _ => Gr.rfl' _) rfl (by first | exact Vc.GuardYes.no rfl | exact Vc.GuardYes.yes rfl rfl) rfl rfl ?_ ?_
        rotate_left
        · intro _ W hI
          go_simp
          rw [if_pos (by omega)]
        repeat
          refine Vc.Walk.pure (v := ?_) (fun _ => Gr.rfl' _) rfl (by first | exact Vc.GuardYes.no rfl | exact Vc.GuardYes.yes rfl rfl) rfl rfl ?_ ?_
          rotate_left
          · intro _ W hI
            (have y0 := hI.g.cell hc0.out; clear hI)
            go_simp
            exact rfl
        refine Vc.Walk.any (.is (.bool bb)) trivial (by first | exact .no rfl | exact .yes rfl rfl) ?_ ?_
        · intro ρ k W hI hf
          obtain ⟨hρ0, hρ1, hρ2, _⟩ := hf
          have hg := hI.g
          have e0 : ρ (.func 66) = .func (.func 66) #[] #[] := hρ0
          have e1 : ρ (.tmp 43) = .slice (some ⟨g, off, none⟩) j c := hρ1
          have e2 : ρ (.tmp 45) = encStr nm := hρ2
          clear hI hρ0 hρ1 hρ2
          go_simp
          refine (HT.out _ (hgw.out.trans' hg)).mono ?_
          rintro e W' ⟨rfl, hg'⟩
          exact ⟨_, rfl, rfl, hg'⟩
        repeat
          refine Vc.Walk.pure (v := ?_) (fun _ => Gr.rfl' _) rfl (by first | exact Vc.GuardYes.no rfl | exact Vc.GuardYes.yes rfl rfl) rfl rfl ?_ ?_
          rotate_left
          · intro _ W hI
            (have y0 := hI.g.cell hc0.out; clear hI)
            go_simp
            exact rfl
        intro W hW
        have hW : Gr w1 W := hW
        simp only [List.reverse_cons, List.reverse_nil, List.nil_append, List.cons_append, Vc.finish, Act.put, List.setIfInBounds_toArray, List.set_cons_zero, List.set_cons_succ]
        have hs := HS.out
        have hin := HBB.out
        clear HBB HS
        cases bb with
        | true =>
          rw [if_pos (of_decide_eq_true hin)] at hs
          subst hs
          go_wp2_with fail
          go_ret
          exact ⟨rfl, hgw.out.trans' hW⟩
        | false =>
          rw [if_neg (of_decide_eq_false hin)] at hs
          have y1 := hW.cell hc1.out
          clear hin
          by_cases h80 : 8000 < qn
          · rw [if_pos h80] at hs
            subst hs
            have h80' : (8000 : Int) < (qn : Int) := by omega
            go_wp2_with fail
            go_ret
            exact ⟨rfl, hgw.out.trans' hW⟩
          · rw [if_neg h80] at hs
            have h80' : ¬ (8000 : Int) < (qn : Int) := by omega
            have HS2 := Lib.hid hs
            clear hs
            go_wp2_with fail
            go_roundw
            case rel => exact ⟨j + 1, by omega, by go_num, HS2, hgw.out.trans' hW⟩
            case measure => simp [intOf]; omega
    · obtain rfl : j = n := by omega
      have e := hgo.out
      rw [List.drop_of_length_le (by omega)] at e
      have e : (0 : Int) = res := e
      subst e
      go_wp2
      go_ret
      exact ⟨rfl, hg⟩
end
end Go.Proofs.Ytcfbkhgdlgnmgaa
set_option linter.unusedVariables false
set_option linter.unusedSimpArgs false
set_option maxRecDepth 100000
namespace Go.Proofs.Ytcfbkhgdlgnmgaa
open Go.RowKit Go.Maps Go.Sort
attribute [local go_sem] Vc.known_tmp Vc.known_const Vc.known_func Vc.known_global Vc.lk Vc.okUpon Vc.Fact.holds
theorem st_gr {Φ : Vc.Frames} {F : Value → World → Prop} (hL : ∀ w w', Φ.Le w w' → Gr w w') (hC : ∀ k w w', Φ.LeC k w w' → Gr w w') (h : ∀ {v w w'}, Gr w w' → F v w → F v w') : (Vc.Fact.fits (Vc.All F)).stable Φ :=
  Vc.All.stable (fun _ _ _ hl hf => h (hL _ _ hl) hf) (fun _ _ _ _ _ hl hf => h (hC _ _ _ hl) hf)
def BsV (bs : Str) (v : Value) (w : World) : Prop := ∃ A n c, v = .slice A n c ∧ Hid (bs.length = n) ∧ Rd w A (bs.map bv)
theorem BsV.gr {bs : Str} {v : Value} {w w' : World} (hg : Gr w w') (h : BsV bs v w) : BsV bs v w' := by
  obtain ⟨A, n, c, e, hn, hr⟩ := h
  exact ⟨A, n, c, e, hn, hr.gr hg⟩
theorem BsV.of {w w' : World} {bs : Str} {e : Ending} (h : Cd.FreshB w bs e w') : ∃ v, e = .returned v ∧ BsV bs v w' ∧ Gr w w' := by
  obtain ⟨g, n, rfl, hn, hlt, hr, hg⟩ := h
  exact ⟨_, rfl, ⟨_, _, _, rfl, hn, Rd.of_row' hr⟩, hg⟩
def bytesTo (N : Nat) (l : List Fl) : Str := u8' N :: l.flatMap fun f => textB f.1 ++ textB f.2
where u8' (n : Nat) : UInt8 := Cd.u8 (n : Int)
theorem bytesTo_all (l : List Fl) : bytesTo l.length l = bytesM l := rfl
theorem bytesTo_snoc (N : Nat) (l : List Fl) (f : Fl) : bytesTo N (l ++ [f]) = (bytesTo N l ++ textB f.1) ++ textB f.2 := by
  unfold bytesTo
  rw [List.flatMap_append, List.flatMap_cons, List.flatMap_nil, List.append_nil, List.cons_append, List.cons_append, List.append_assoc]
theorem textB_le (s : Str) : (textB s).length ≤ 65537 := by
  unfold textB
  rw [List.length_append, le_length, List.length_take]
  omega
theorem bytesTo_le (N : Nat) (l : List Fl) : (bytesTo N l).length ≤ 1 + l.length * 131074 := by
  unfold bytesTo
  rw [List.length_cons]
  have : ∀ l : List Fl, (l.flatMap fun f => textB f.1 ++ textB f.2).length ≤ l.length * 131074 := fun l => by
    induction l with
    | nil => simp
    | cons f l ih =>
      have h1 := textB_le f.1
      have h2 := textB_le f.2
      rw [List.flatMap_cons, List.length_append, List.length_append, List.length_cons, Nat.succ_mul]
      omega
  have := this l
  omega
theorem text_is (bs : Str) (s : Str) : bs ++ le (Cd.cutS ⟨s.toArray⟩).length 2 ++ Cd.cutS ⟨s.toArray⟩ = bs ++ textB s := by
  have h1 : Cd.cutS ⟨s.toArray⟩ = s.take 65535 := by simp [Cd.cutS]
  rw [h1, List.append_assoc]
  unfold textB
  rw [List.length_take, Nat.min_comm]
theorem ctext_any (A : Option Addr) (n c : Nat) (bs s : Str) (w : World) (hn : Hid (bs.length = n)) (hx : Rd w A (bs.map bv)) (hl : n ≤ 140737488285000) (hs : s.length ≤ maxLen) :
    Calls Try.prog 65 #[.slice A n c, .string ⟨s.toArray⟩] w fun e w' => ∃ v, e = .returned v ∧ BsV (bs ++ textB s) v w' ∧ Gr w w' := by
  refine (Cd.wText_any A n c bs ⟨s.toArray⟩ w hn hx hl (by simpa [ByteArray.size] using hs)).mono fun e w' h => ?_
  rw [text_is] at h
  exact BsV.of h
section
variable {Z : Nat → Prop} {w : World} {A : Option Addr} {rs : List FlR}
set_option maxHeartbeats 4000000 in
theorem bytes_any (h : FlS w Z A rs) (c : Nat) (hl : rs.length ≤ 255) (hb : ∀ f ∈ rs, f.q.n ≤ 1000000) :
    Calls Try.prog 39 #[.slice A rs.length c] w fun e w' => ∃ v, e = .returned v ∧ BsV (bytesM (rs.map FlR.fl)) v w' ∧ Gr w w' := by
  have hall := bytesTo_all (rs.map FlR.fl)
  rw [List.length_map] at hall
  rw [← hall]
  clear hall
  generalize hn : rs.length = n at hl ⊢
  have H0 := Lib.hid (show ∀ W, Calls Try.prog 64 #[.slice none 0 0, .int .i64 n] W fun e w' => ∃ v, e = .returned v ∧ BsV (bytesTo n []) v w' ∧ Gr W w' from fun W =>
    (Cd.wByte_any none 0 0 [] n W (Lib.hid rfl) (Rd.nil _ _) (by omega)).mono fun e w' h => BsV.of h)
  go_enter Try.func39, Try.ntmps39
  go_wp2_with (go_at_call 64; refine (H0.out _).mono ?_; rintro e w1 ⟨v1, rfl, hv1, hg1⟩)
  go_loopw [3, 11] (fun t i wr => ∃ j : Nat, j ≤ n ∧ i = .int .i64 j ∧ Hid (BsV (bytesTo n ((rs.take j).map FlR.fl)) t wr) ∧ Gr w wr) (fun _ i _ => n - (intOf i).toNat)
  case atStart => exact ⟨0, by omega, rfl, Lib.hid hv1, hg1⟩
  case round =>
    obtain ⟨j, hj, rfl, hv, hg⟩ := hrel
    by_cases hlt : j < n
    · have hjl : j < rs.length := by omega
      obtain ⟨g, off, rfl, x0, x1⟩ := (h.gr hg).at_ hjl
      have hsn := bytesTo_snoc n ((rs.take j).map FlR.fl) rs[j].fl
      rw [show (rs.take j).map FlR.fl ++ [rs[j].fl] = (rs.take (j + 1)).map FlR.fl from by rw [List.take_succ_eq_append_getElem hjl, List.map_append]; rfl] at hsn
      have hle := bytesTo_le n ((rs.take j).map FlR.fl)
      rw [List.length_map, List.length_take] at hle
      obtain ⟨A1, n1, c1, rfl, hn1, hr1⟩ := hv.out
      have hfk := h.ok _ (List.getElem_mem hjl)
      have hq := ((h.gr hg).ok _ (List.getElem_mem hjl)).1
      have hqb := hfk.1.len.out
      have hnl := hfk.2.1
      have hqn := hb _ (List.getElem_mem hjl)
      rw [show rs[j].fl.1 = rs[j].nm from rfl, show rs[j].fl.2 = rs[j].q.b from rfl] at hsn
      have hrq := hq.rd
      obtain ⟨B, hB⟩ : ∃ B, B = bytesTo n ((rs.take j).map FlR.fl) := ⟨_, rfl⟩
      rw [← hB] at hsn hle hn1 hr1
      have hsn := Lib.hid hsn
      clear hfk hq hv hB
      generalize rs[j].nm = nm at *
      generalize rs[j].q.b = qb at *
      generalize rs[j].q.n = qn at *
      generalize rs[j].q.A = qA at *
      generalize rs[j].q.c = qc at *
      have hB1 := hn1.out
      have hntl := textB_le nm
      go_wp2_with fail
      have hrow : Row (wr.alloc (.cells #[.string ⟨nm.toArray⟩, .slice qA qn qc] 31)) wr.heap.size 31 [encStr nm, .slice qA qn qc] := Row.new wr 31 [encStr nm, .slice qA qn qc]
      have hg1 : Gr wr (wr.alloc (.cells #[.string ⟨nm.toArray⟩, .slice qA qn qc] 31)) := Gr.alloc1 _ _
      generalize wr.alloc (.cells #[.string ⟨nm.toArray⟩, .slice qA qn qc] 31) = w1 at *
      generalize wr.heap.size = gb at *
      have hc0 := Lib.hid (show w1.cell? ⟨gb, 0, none⟩ = some (encStr nm) from hrow.cell 0)
      have hc1 := Lib.hid (show w1.cell? ⟨gb, 1, none⟩ = some (.slice qA qn qc) from hrow.cell 1)
      have hgw := Lib.hid (hg.trans' hg1)
      have HT1 := Lib.hid (fun W (hgW : Gr w1 W) => ctext_any A1 n1 c1 B nm W hn1 ((hr1.gr hg1).gr hgW) (by omega) hnl)
      have HQ := Lib.hid (fun W (hgW : Gr w1 W) => (hrq.gr hg1).gr hgW)
      have hqb2 := Lib.hid hqb
      have hql := Lib.hid (show qb.length ≤ maxLen from by unfold maxLen; omega)
      have hBn := Lib.hid (show (B ++ textB nm).length ≤ 140737488285000 from by rw [List.length_append]; omega)
      obtain ⟨B2, hB2⟩ : ∃ x, x = B ++ textB nm := ⟨_, rfl⟩
      obtain ⟨B3, hB3⟩ : ∃ x, x = B2 ++ textB qb := ⟨_, rfl⟩
      have hsn := Lib.hid (show bytesTo n ((rs.take (j + 1)).map FlR.fl) = B3 from by rw [hB3, hB2]; exact hsn.out)
      rw [← hB2] at HT1 hBn
      have HB3 := Lib.hid hB3
      clear hB2 hB3
      clear hrow hg1 x0 x1 hg hr1 hrq hqb hnl hle hB1 hntl
      refine Vc.wp_region_facts ⟨Gr, fun _ => Gr, fun _ W => Gr w1 W, []⟩ (by kernel_rfl) (by kernel_rfl) (fun _ _ _ h h' => h'.trans' h) (Gr.draw _) ?_
      repeat
        refine Vc.Walk.pure (v := ?_) (fun _ => Gr.rfl' _) rfl (by first | exact Vc.GuardYes.no rfl | exact Vc.GuardYes.yes rfl rfl) rfl rfl ?_ ?_
        rotate_left
        · intro _ W hI
          (have y0 := hI.g.cell hc0.out; clear hI)
          go_simp
          exact rfl
      refine Vc.Walk.any (.fits (Vc.All (BsV B2))) (st_gr (fun _ _ h => h) (fun _ _ _ h => h) BsV.gr) (by first | exact .no rfl | exact .yes rfl rfl) ?_ ?_
      · intro ρ k W hI hf
        obtain ⟨hρ0, hρ1, hρ2, _⟩ := hf
        have hg := hI.g
        have e0 : ρ (.func 65) = .func (.func 65) #[] #[] := hρ0
        have e1 : ρ (.tmp 15) = .slice A1 n1 c1 := hρ1
        have e2 : ρ (.tmp 17) = encStr nm := hρ2
        clear hI hρ0 hρ1 hρ2
        go_simp
        refine (HT1.out _ hg).mono ?_
        rintro e W' ⟨v, rfl, hv, hg'⟩
        exact ⟨_, rfl, hv, hg'⟩
      repeat
        refine Vc.Walk.pure (v := ?_) (fun _ => Gr.rfl' _) rfl (by first | exact Vc.GuardYes.no rfl | exact Vc.GuardYes.yes rfl rfl) rfl rfl ?_ ?_
        rotate_left
        · intro _ W hI
          (have y0 := hI.g.cell hc1.out; clear hI)
          go_simp
          exact rfl
      repeat
        refine Vc.Walk.pure (v := ?_) (fun _ => Gr.rfl' _) rfl (by first | exact Vc.GuardYes.no rfl | exact Vc.GuardYes.yes rfl rfl) rfl rfl ?_ ?_
        rotate_left
        · intro _ W hI
          (have hcv := run_str (P := Try.prog) (HQ.out _ hI.g) 29 9 5 qn qc hqb2.out.symm Try.underlying29 Try.underlying5 Try.underlying9; clear hI)
          go_simp
          exact rfl
      refine Vc.Walk.any (.fits (Vc.All (BsV B3))) (st_gr (fun _ _ h => h) (fun _ _ _ h => h) BsV.gr) (by first | exact .no rfl | exact .yes rfl rfl) ?_ ?_
      · intro ρ k W hI hf
        obtain ⟨hρ0, ⟨A2, n2, c2, hρ1, hn2, hr2⟩, hρ2, _⟩ := hf
        have hg := hI.g
        have e0 : ρ (.func 65) = .func (.func 65) #[] #[] := hρ0
        have e1 : ρ (.tmp 18) = .slice A2 n2 c2 := hρ1
        have e2 : ρ (.tmp 21) = .string ⟨qb.toArray⟩ := hρ2
        have HT2 := Lib.hid (HB3.out ▸ ctext_any A2 n2 c2 B2 qb W hn2 hr2 (by have h1 := hBn.out; have h2 := hn2.out; omega) hql.out)
        clear hI hρ0 hρ1 hρ2 hn2 hr2
        go_simp
        refine HT2.out.mono ?_
        rintro e W' ⟨v, rfl, hv, hg'⟩
        exact ⟨_, rfl, hv, hg'⟩
      refine Vc.Walk.any (.fits (Vc.All (BsV B3))) (st_gr (fun _ _ h => h) (fun _ _ _ h => h) BsV.gr) (.no rfl) ?_ ?_
      · intro ρ k W hI hf
        obtain ⟨⟨A', n', c', hρ, hh⟩, _⟩ := hf
        have hh := Lib.hid hh
        clear hI
        go_simp
        exact ⟨⟨_, _, _, rfl, hh.out⟩, Gr.rfl' _⟩
      intro W hW
      have hW : Gr w1 W := hW
      simp only [List.reverse_cons, List.reverse_nil, List.nil_append, List.cons_append, Vc.finish, Act.put, List.setIfInBounds_toArray, List.set_cons_zero, List.set_cons_succ]
      rintro u18 _ u22 _ u3 hv3
      have HV3 := Lib.hid (show BsV (bytesTo n ((rs.take (j + 1)).map FlR.fl)) u3 W from by rw [hsn.out]; exact hv3)
      clear hv3
      go_wp2_with fail
      go_roundw
      case rel => exact ⟨j + 1, by omega, by go_num, HV3, hgw.out.trans' hW⟩
      case measure => simp [intOf]; omega
    · obtain rfl : j = n := by omega
      have hv2 := hv.out
      rw [List.take_of_length_le (by omega)] at hv2
      have hv2 := Lib.hid hv2
      clear hv
      go_wp2
      go_ret
      exact ⟨_, rfl, hv2.out, hg⟩
end
end Go.Proofs.Ytcfbkhgdlgnmgaa
set_option linter.unusedVariables false
set_option linter.unusedSimpArgs false
namespace Go.Proofs.Ytcfbkhgdlgnmgaa
open Go.RowKit Go.ChangeShapes Go.WideShapes Go.ChangeAt Go.Deep
instance : Inhabited FlR := ⟨⟨[], default⟩⟩
section
variable {H : Type} {enc : TypeId × Value → H} {w : World} {a : Option Addr} {len cap : Nat} {d : DataW H} {p : List MemPlace}
theorem rd_lt {A : Option Addr} {xs : List Value} (h : Rd w A xs) (h0 : 0 < xs.length) : ∀ ad, A = some ad → ad.block < w.heap.size := by
  intro ad e
  obtain ⟨ad', e', hc⟩ := h 0 xs[0] (List.getElem?_eq_getElem h0)
  rw [e] at e'
  injection e' with e'
  subst e'
  have := World.block_lt_of_cell? w _ hc
  rwa [block_of_add] at this
set_option maxRecDepth 100000 in
theorem open_file {fuel : Nat} {cs : List Value} {x : DataW H × List MemPlace} (h : DataW.trod enc Try.prog w 0 (fun _ => true) true fuel 31 cs = some x) : ∃ q : FlR, cs = q.cells ∧ q.q.Ok w ∧ q.nm.length ≤ maxLen := by
  have cS : Try.prog.cellsOf 9 = 1 := by kernel_rfl
  have cB : Try.prog.cellsOf 29 = 1 := by kernel_rfl
  have cA : Try.prog.cellsOf 31 = 2 := by kernel_rfl
  obtain ⟨xs, n, _, _, hl, hlen, hf⟩ := DataW.trod_struct Try.underlying31 h
  rw [cA] at hl
  match cs, hl with
  | [c0, c1], _ =>
    match xs, hlen with
    | [y0, y1], _ =>
      have h0 : DataW.trod enc Try.prog w 0 (fun _ => true) true n 9 [c0] = some y0 := by simpa [cS] using hf 0 _ rfl
      have h1 : DataW.trod enc Try.prog w 0 (fun _ => true) true n 29 [c1] = some y1 := by simpa [cB] using hf 1 _ rfl
      obtain ⟨s, e0, _, w0⟩ := DataW.trod_string Try.underlying9 h0
      obtain ⟨q, e1, hq⟩ := open_bytes_cell Try.underlying29 Try.underlying5 (by kernel_rfl) h1
      injection e0 with e0
      subst e0 e1
      exact ⟨⟨s.data.toList, q⟩, by simp [FlR.cells, encStr, Rw.val], hq, by simpa using w0⟩
set_option maxRecDepth 100000 in
theorem open_files (h : DataW.Trod enc Try.prog w 0 (fun _ => true) true 22 (.slice a len cap) d p) :
    ∃ rs : List FlR, Hid (rs.length = len) ∧ FlS w (fun i => i < w.heap.size) a rs ∧ len ≤ cap ∧ cap ≤ maxLen := by
  have cA : Try.prog.cellsOf 31 = 2 := by kernel_rfl
  obtain ⟨fuel, hf⟩ := h
  rcases open_slice Try.underlying22 hf with ⟨hcs, _⟩ | ⟨x, l, c, m, n, D, Pl, hcs, _, hl, hm, hmm, _, hx⟩
  · simp [Value.cells] at hcs
    obtain ⟨rfl, rfl, rfl⟩ := hcs
    exact ⟨[], Lib.hid rfl, ⟨Rd.nil _ _, fun h => absurd h (by simp), fun f hf => by cases hf⟩, Nat.le_refl _, by unfold maxLen; omega⟩
  · simp [Value.cells] at hcs
    obtain ⟨rfl, rfl, rfl⟩ := hcs
    simp only [if_true] at hmm
    subst hmm
    rw [cA] at hx
    obtain ⟨f, hf2⟩ := choose_lt (α := FlR) (n := len) (p := fun i q => w.cells? 0 (x.add (i * 2)) 2 = some q.cells ∧ q.q.Ok w ∧ q.nm.length ≤ maxLen) (fun i hi => by
      obtain ⟨cs', e1, e2⟩ := hx i (by omega)
      obtain ⟨q, e3, hq⟩ := open_file e2
      exact ⟨q, e3 ▸ e1, hq⟩)
    have hrl : ((List.range len).map f).length = len := by simp
    have hrd : Rd w (some x) (((List.range len).map f).flatMap FlR.cells) := by
      intro j u hu
      have hj : j < len * 2 := by
        have := (List.getElem?_eq_some_iff.1 hu).1
        rw [cmf_len, hrl] at this
        exact this
      have hi : j / 2 < len := by omega
      have hk : j % 2 < 2 := Nat.mod_lt _ (by omega)
      have e : j = j / 2 * 2 + j % 2 := by omega
      rw [e, cmf_get _ (by rw [hrl]; exact hi) hk] at hu
      rw [List.getElem_map, List.getElem_range] at hu
      obtain ⟨_, hlen, hc⟩ := World.cells?_some (hf2 _ hi).1
      refine ⟨x, rfl, ?_⟩
      have := hc (j % 2) (by rw [← hlen]; exact (List.getElem?_eq_some_iff.1 hu).1)
      rw [add_of_add, ← e] at this
      exact this.trans hu
    refine ⟨(List.range len).map f, Lib.hid hrl, ⟨hrd, fun h0 ad e => rd_lt hrd (by rw [cmf_len]; omega) ad e, fun q hq => ?_⟩, hl, hm⟩
    obtain ⟨i, hi, rfl⟩ := List.mem_map.1 hq
    obtain ⟨_, h1, h2⟩ := hf2 i (List.mem_range.1 hi)
    exact ⟨h1, h2, fun h0 ad e => rd_lt h1.rd (by rw [List.length_map]; have := h1.len.out; omega) ad e⟩
end
end Go.Proofs.Ytcfbkhgdlgnmgaa
set_option linter.unusedVariables false
set_option linter.unusedSimpArgs false
set_option maxRecDepth 100000
namespace Go.Proofs.Ytcfbkhgdlgnmgaa
open Go.RowKit Go.Maps Go.Sort
attribute [local go_sem] Vc.known_tmp Vc.known_const Vc.known_func Vc.known_global Vc.lk Vc.okUpon Vc.Fact.holds
def strs4 : List Str := [[97], [98], [111], [120]]
def nmA (i : Nat) : Str := strs4.getD i []
def cut60 (q : Rw) : Rw := ⟨q.A, min q.n 60, q.c, q.b.take 60⟩
def goodR (rs : List FlR) (n : Nat) : List FlR := (List.range n).map fun i => ⟨nmA i, cut60 (rs[i]!).q⟩
theorem goodR_len (rs : List FlR) (n : Nat) : (goodR rs n).length = n := by simp [goodR]
theorem goodR_succ (rs : List FlR) {n : Nat} (h : n < rs.length) : goodR rs (n + 1) = goodR rs n ++ [⟨nmA n, cut60 rs[n].q⟩] := by
  unfold goodR
  rw [List.range_succ, List.map_append]
  simp [h]
section
variable {X Z : Nat → Prop} {w w' : World} {A : Option Addr} {rs : List FlR}
def FewM (rs : List FlR) : Prop := (∀ f ∈ rs, f.q.n ≤ 9000 ∧ f.nm.length ≤ 40) ∧ rs.length ≤ 10
instance (rs : List FlR) : Decidable (FewM rs) := by unfold FewM; infer_instance
theorem few_any (h : FlS w Z A rs) (c : Nat) (hl : rs.length ≤ maxLen) :
    Calls Try.prog 11 #[.slice A rs.length c] w fun e w' => e = .returned (.bool (decide (FewM rs))) ∧ w' = w := by
  unfold maxLen at hl
  obtain ⟨R, hR⟩ : ∃ R, R = decide (FewM rs) := ⟨_, rfl⟩
  rw [← hR]
  have HR := Lib.hid hR
  clear hR
  generalize hn : rs.length = n at hl ⊢
  go_enter Try.func11, Try.ntmps11
  go_wp2_with fail
  go_loopw [3] (fun i wr => ∃ j : Nat, j ≤ n ∧ i = .int .i64 j ∧ Hid (∀ i (h : i < rs.length), i < j → rs[i].q.n ≤ 9000 ∧ rs[i].nm.length ≤ 40) ∧ wr = w) (fun i _ => n - (intOf i).toNat)
  case atStart => exact ⟨0, by omega, rfl, Lib.hid (fun i h h' => absurd h' (by omega)), rfl⟩
  case round =>
    obtain ⟨j, hj, rfl, hall, rfl⟩ := hrel
    by_cases hlt : j < n
    · have hjl : j < rs.length := by omega
      obtain ⟨g, off, rfl, x0, x1⟩ := h.at_ hjl
      have hal := Lib.hid (fun (h1 : rs[j].q.n ≤ 9000) (h2 : rs[j].nm.length ≤ 40) => show ∀ i (h : i < rs.length), i < j + 1 → rs[i].q.n ≤ 9000 ∧ rs[i].nm.length ≤ 40 from fun i h h' => by
        by_cases e : i = j
        · subst e; exact ⟨h1, h2⟩
        · exact hall.out i h (by omega))
      have hbad := Lib.hid (fun (h1 : ¬ (rs[j].q.n ≤ 9000 ∧ rs[j].nm.length ≤ 40)) => show R = false from by
        rw [HR.out]
        exact decide_eq_false fun hf => h1 (hf.1 _ (List.getElem_mem hjl)))
      have hlec := (h.ok _ (List.getElem_mem hjl)).1.le
      have hnl := (h.ok _ (List.getElem_mem hjl)).2.1
      unfold maxLen at hnl
      generalize rs[j].q.n = qn at *
      generalize rs[j].q.A = qA at *
      generalize rs[j].q.c = qc at *
      generalize rs[j].nm = nm at *
      by_cases h1 : 9000 < qn
      · go_wp2
        go_ret
        rw [hbad.out (by omega)]
        exact ⟨rfl, rfl⟩
      · by_cases h2 : 40 < nm.length
        · go_wp2
          go_ret
          rw [hbad.out (by omega)]
          exact ⟨rfl, rfl⟩
        · have h3 := Lib.hid (hal.out (by omega) (by omega))
          go_wp2
          go_roundw
          case rel => exact ⟨j + 1, by omega, by go_num, h3, trivial⟩
          case measure => simp [intOf]; omega
    · obtain rfl : j = n := by omega
      by_cases h10 : j ≤ 10
      · have hRt := Lib.hid (show R = true from by
          rw [HR.out]
          exact decide_eq_true ⟨fun f hf => by obtain ⟨i, hi, rfl⟩ := List.getElem_of_mem hf; exact hall.out i hi (by omega), by omega⟩)
        go_wp2
        go_ret
        rw [hRt.out]
        refine ⟨?_, rfl⟩
        simp
        omega
      · have hRt := Lib.hid (show R = false from by
          rw [HR.out]
          exact decide_eq_false fun hf => h10 (by have := hf.2; omega))
        go_wp2
        go_ret
        rw [hRt.out]
        refine ⟨?_, rfl⟩
        simp
        omega
theorem row4_at (i : Nat) (h : i < 4) : (strs4.map encStr)[i]? = some (encStr (nmA i)) := by
  rw [List.getElem?_map]
  unfold nmA strs4
  rcases i with _ | _ | _ | _ | i <;> first | rfl | omega
set_option maxHeartbeats 1000000 in
theorem good_any (h : FlS w Z A rs) (hz : ∀ i, Z i → i < w.heap.size) (c : Nat) (k : Nat) (hk : k ≤ 4) (hl : rs.length ≤ maxLen) :
    Calls Try.prog 12 #[.slice A rs.length c, .int .i64 k] w fun e w' => ∃ A' c', e = .returned (.slice A' (min rs.length k) c') ∧ FlO w' Z w.heap.size A' (min rs.length k) c' (goodR rs (min rs.length k)) ∧ Gr w w' := by
  unfold maxLen at hl
  obtain ⟨i0, hi, hz0, hz1, hz2⟩ := info_parts info_cfile
  generalize hn : rs.length = n at hl ⊢
  go_enter Try.func12, Try.ntmps12
  go_wp2_with fail
  go_loopw [5, 6] (fun t i wr => ∃ j : Nat, j ≤ min n k ∧ i = .int .i64 j ∧ ∃ A' c', t = .slice A' j c' ∧ Hid (FlO wr Z w.heap.size A' j c' (goodR rs j)) ∧ Gr w wr) (fun _ i _ => min n k - (intOf i).toNat)
  case atStart => exact ⟨0, by omega, rfl, none, 0, rfl, Lib.hid (FlO.nil _ _ _), Gr.rfl' _⟩
  case round =>
    obtain ⟨j, hj, rfl, A1, c1, rfl, hfl, hg⟩ := hrel
    by_cases hlt : j < min n k
    · have hjl : j < rs.length := by omega
      have hjn : j < n := by omega
      have hjk : j < k := by omega
      have hj4 : j < 4 := by omega
      have hgs := Lib.hid (goodR_succ rs hjl)
      obtain ⟨g, off, rfl, x0, x1⟩ := (h.gr hg).at_ hjl
      have hq := ((h.gr hg).ok _ (List.getElem_mem hjl)).1
      have hqz := ((h.gr hg).ok _ (List.getElem_mem hjl)).2.2
      have hle := hq.le
      have hlec := hq.lec
      unfold maxLen at hlec
      have hrow4 := Lib.hid (row4_at j hj4)
      have hq1 : Hid (Rw.Ok wr (cut60 rs[j].q)) := Lib.hid ⟨Lib.hid (by have := hq.len.out; show (List.take 60 _).length = min _ 60; rw [List.length_take]; omega), by have := hq.rd.take 60; rw [← List.map_take] at this; exact this, Nat.le_trans (Nat.min_le_left _ _) hq.le, hq.lec⟩
      have hqz2 := Lib.hid (show 0 < (cut60 rs[j].q).n → ∀ ad, (cut60 rs[j].q).A = some ad → Z ad.block from fun h0 ad e => hqz (by have : 0 < min rs[j].q.n 60 := h0; omega) ad e)
      obtain ⟨f, hf⟩ : ∃ f : FlR, f = ⟨nmA j, cut60 rs[j].q⟩ := ⟨_, rfl⟩
      have hfc : f.cells = [encStr (nmA j), .slice rs[j].q.A (min rs[j].q.n 60) rs[j].q.c] := by rw [hf]; rfl
      rw [← hf] at hgs
      have hfp := Lib.hid (show f.q.Ok wr ∧ f.nm.length ≤ maxLen ∧ (0 < f.q.n → ∀ ad, f.q.A = some ad → Z ad.block) from by
        rw [hf]
        refine ⟨hq1.out, ?_, hqz2.out⟩
        show (nmA j).length ≤ maxLen
        unfold nmA strs4 maxLen
        rcases j with _ | _ | _ | _ | j <;> simp <;> omega)
      have hfc := Lib.hid hfc
      clear hf hq hqz hq1 hqz2
      generalize rs[j].q.n = qn at *
      generalize rs[j].q.A = qA at *
      generalize rs[j].q.c = qc at *
      have hmod : Int.tmod (j : Int) 4 = (j : Int) := Int.tmod_eq_of_lt (by omega) (by omega)
      obtain ⟨m, hm⟩ : ∃ m, m = min qn 60 := ⟨_, rfl⟩
      have hmin : min (qn : Int) 60 = (m : Int) := by omega
      have hmc : m ≤ qc := by omega
      have hfc := Lib.hid (hm ▸ hfc.out)
      clear hm
      go_wp2_with fail
      have HX := Lib.hid (fun W (hW : Gr wr W) => (hW.cell x1 : W.cell? ⟨g, off + j * 2 + 1, none⟩ = some (.slice qA qn qc)))
      clear x0 x1
      refine Vc.wp_region_split ⟨Gr, fun _ => Gr, fun _ W => Gr wr W, []⟩ 21 [] (by kernel_rfl) (by kernel_rfl) (by kernel_rfl) (by decide) (by simp) (by simp) (by simp) (fun _ _ h => h.size) (fun _ _ _ h => h.size) (fun _ _ _ h h' => h'.trans' h) (Gr.draw _) ?_
      repeat
        refine Vc.Walk.pure (v := ?_) (fun _ => Gr.rfl' _) rfl (by first | exact Vc.GuardYes.no rfl | exact Vc.GuardYes.yes rfl rfl) rfl rfl ?_ ?_
        rotate_left
        · intro _ W hI
          (clear hI)
          go_simp
          exact rfl
      refine Vc.Walk.call (.fits (Vc.All fun v W => ∃ g, v = .slice (some ⟨g, 0, none⟩) 4 4 ∧ Row W g 9 (strs4.map encStr))) (Vc.All.stable (fun u W W' hl hf => by obtain ⟨g, e, hR⟩ := hf; exact ⟨g, e, hR.gr hl⟩) (fun _ u W W' _ hl hf => by obtain ⟨g, e, hR⟩ := hf; exact ⟨g, e, hR.gr hl⟩)) (.no rfl) rfl rfl ?_ ?_
      · intro k W hI
        clear hI
        go_simp
        exact ⟨⟨_, rfl, Row.new W _ (strs4.map encStr)⟩, Gr.alloc1 _ _⟩
      repeat
        refine Vc.Walk.pure (v := ?_) (fun _ => Gr.rfl' _) rfl (by first | exact Vc.GuardYes.no rfl | exact Vc.GuardYes.yes rfl rfl) rfl rfl ?_ ?_
        rotate_left
        · intro _ W hI
          (clear hI)
          go_simp
          exact rfl
      refine Vc.Walk.any (.fits (Vc.All fun v W => ∃ g, v = .pointer (some ⟨g, j, none⟩) ∧ Row W g 9 (strs4.map encStr))) (Vc.All.stable (fun u W W' hl hf => by obtain ⟨g, e, hR⟩ := hf; exact ⟨g, e, hR.gr hl⟩) (fun _ u W W' _ hl hf => by obtain ⟨g, e, hR⟩ := hf; exact ⟨g, e, hR.gr hl⟩)) (.no rfl) ?_ ?_
      · intro ρ k W hI hf
        obtain ⟨⟨g, hρ1, hR⟩, hρ2, _⟩ := hf
        have e1 : ρ (.tmp 19) = .slice (some ⟨g, 0, none⟩) 4 4 := hρ1
        have e2 : ρ (.tmp 21) = .int .i64 j := hρ2
        have h5 : (j : Int) < 4 := by omega
        clear hI hρ1 hρ2
        go_simp
        exact ⟨⟨_, rfl, hR⟩, Gr.rfl' _⟩
      refine Vc.Walk.any (.is (encStr (nmA j))) trivial (.no rfl) ?_ ?_
      · intro ρ k W hI hf
        obtain ⟨⟨g, hρ1, hR⟩, _⟩ := hf
        have e1 : ρ (.tmp 22) = .pointer (some ⟨g, j, none⟩) := hρ1
        have hcell : W.cell? ⟨g, j, none⟩ = some (encStr (nmA j)) := (hR.cell j).trans hrow4.out
        clear hI hρ1
        go_simp
        first | exact ⟨rfl, Gr.rfl' _⟩ | exact Gr.rfl' _
      repeat
        refine Vc.Walk.pure (v := ?_) (fun _ => Gr.rfl' _) rfl (by first | exact Vc.GuardYes.no rfl | exact Vc.GuardYes.yes rfl rfl) rfl rfl ?_ ?_
        rotate_left
        · intro _ W hI
          (have y1 := HX.out _ hI.g; clear hI)
          go_simp
          exact rfl
      refine Vc.Walk.call (.fits (Vc.All fun v W => ∃ g, v = .slice (some ⟨g, 0, none⟩) 1 1 ∧ Row W g 31 [encStr (nmA j), .slice qA m qc])) (Vc.All.stable (fun u W W' hl hf => by obtain ⟨g, e, hR⟩ := hf; exact ⟨g, e, hR.gr hl⟩) (fun _ u W W' _ hl hf => by obtain ⟨g, e, hR⟩ := hf; exact ⟨g, e, hR.gr hl⟩)) (.no rfl) rfl rfl ?_ ?_
      · intro k W hI
        clear hI
        go_simp
        exact ⟨⟨_, rfl, Row.new W _ [encStr (nmA j), .slice qA m qc]⟩, Gr.alloc1 _ _⟩
      intro W hW
      have hW : Gr wr W := hW
      simp only [List.reverse_cons, List.reverse_nil, List.nil_append, List.cons_append, Vc.finish, Act.put, List.setIfInBounds_toArray, List.set_cons_zero, List.set_cons_succ]
      rintro u19 _ u22 _ u38 ⟨g38, rfl, hR38⟩ _
      simp only [List.drop_succ_cons, List.drop_zero]
      have hown := Lib.hid (hfl.out.gr hW)
      have hsz := Nat.le_trans hg.size hW.size
      have hR38 := Lib.hid hR38
      go_wp2_with (at_builtin; with_reducible refine wpList_append (o := ⟨some 39, _, _, _, _, _⟩) _ rfl _ _ 22 rfl w.heap.size 31 i0 _ 2 40 Try.underlying22 hi hz0 hz1 hz2 rfl (by omega) A1 j c1 _ rfl hown.out.own _ 1 1 [encStr (nmA j), .slice qA m qc] rfl rfl (Rd.of_row' hR38.out) (by simp [Value.oneCell']) (by omega) (by unfold maxLen; omega) hsz ?_
                   intro A6 c6 w6 ho6 hk6
                   have hq6 := Lib.hid (And.intro ho6 hk6)
                   clear ho6 hk6)
      go_roundw
      case rel =>
        obtain ⟨q1, q2⟩ := hq6.out
        obtain ⟨p1, p2, p3⟩ := hfp.out
        refine ⟨j + 1, by omega, by go_num, A6, c6, rfl, Lib.hid ?_, Gr.grownBk (hg.trans' hW) q2.grown (fun g' e => (hown.out.own.blk g' e).1)⟩
        rw [hgs.out]
        exact hown.out.push (p1.gr hW) p2 (fun h0 ad e => ⟨p3 h0 ad e, fun e2 => by have := (hown.out.own.blk _ e2).1; have := hz _ (p3 h0 ad e); omega, by have := hz _ (p3 h0 ad e); omega⟩) (by rw [hfc.out]; exact q1) q2
      case measure => simp [intOf]; omega
    · obtain rfl : j = min n k := by omega
      have hfz := Lib.hid hfl.out
      clear hfl
      generalize hnk : min n k = m at *
      by_cases hmn : m < n
      · have hmk : ¬ ((m : Int) < k) := by omega
        go_wp2
        go_ret
        try rw [hnk]
        exact ⟨A1, c1, rfl, hfz.out, hg⟩
      · obtain rfl : m = n := by omega
        go_wp2
        go_ret
        try rw [hnk]
        exact ⟨A1, c1, rfl, hfz.out, hg⟩
end
end Go.Proofs.Ytcfbkhgdlgnmgaa
set_option linter.unusedVariables false
set_option linter.unusedSimpArgs false
set_option maxRecDepth 100000
namespace Go.Proofs.Ytcfbkhgdlgnmgaa.Cd
open Go.RowKit
def AppB (w : World) (B : Nat) (A : Option Addr) (xs : List UInt8) (bs : List UInt8) (e : Ending) (w' : World) : Prop :=
  ∃ A' n' c', e = .returned (.slice A' n' c') ∧ Hid (bs.length = n') ∧ AppTo w B 5 1 A (xs.map bv) w' A' n' c' (bs.map bv)
theorem u8_mod (k : Int) : Value.int .u8 (k % 256) = bv (u8 k) := by
  rw [← u8_wrap k]
  simp [IntKind.wrap, IntKind.bits, IntKind.signed]
theorem xByte_any (B : Nat) (A : Option Addr) (n c : Nat) (bs : List UInt8) (k : Int) (w : World) (hn : Hid (bs.length = n)) (hx : Own w B 5 1 A n c (bs.map bv)) (hB : B ≤ w.heap.size) (hl : n ≤ 140737488351200) :
    Calls Try.prog 21 #[.slice A n c, .int .i64 k] w (AppB w B A bs (bs ++ [u8 k])) := by
  obtain ⟨i0, hi, hz0, hz1, hz2⟩ := info_parts info_u8
  have hu := Lib.hid (u8_mod k)
  go_enter Try.func21, Try.ntmps21
  go_wp2_with (at_builtin; refine wpList_append _ rfl _ _ 29 rfl B 5 i0 _ 1 1 Try.underlying29 hi hz0 hz1 hz2 rfl (by omega) A n c _ rfl (hx.alloc _) _ 1 1 _ rfl rfl (Rd.one_new _ _ _) (by simp; rfl) (by omega) (by unfold maxLen; omega) (by simp; omega) ?_; intro A' c' w' hown hk)
  go_ret
  rw [hu.out] at hown
  exact ⟨A', n + 1, c', rfl, Lib.hid (by have := hn.out; simp; omega), by
    have h1 := ((AppTo.refl hx hB).gr (Gr.alloc1 _ _)).step hown hk
    simpa using h1⟩
theorem le_two (n : Nat) (h : n ≤ 65535) : [Value.int .u8 ((n : Int) % 256), .int .u8 ((n : Int) / 256)] = (le n 2).map bv := by
  have h1 : (n : Int) / 256 = ((n / 256 % 256 : Nat) : Int) := by omega
  rw [h1]
  simp [le, bv, List.range_succ]
theorem xText_any (B : Nat) (A : Option Addr) (n c : Nat) (bs : List UInt8) (s : ByteArray) (w : World) (hn : Hid (bs.length = n)) (hx : Own w B 5 1 A n c (bs.map bv)) (hB : B ≤ w.heap.size) (hl : n ≤ 140737488285000) (hs : s.size ≤ maxLen) :
    Calls Try.prog 33 #[.slice A n c, .string s] w (AppB w B A bs (bs ++ le (cutS s).length 2 ++ cutS s)) := by
  obtain ⟨i0, hi, hz0, hz1, hz2⟩ := info_parts info_u8
  unfold maxLen at hs
  have hBa : ∀ o : Obj, B ≤ (w.alloc o).heap.size := fun o => by have := (Gr.alloc1 w o).size; omega
  by_cases h : s.size ≤ 65535
  · rw [cutS_small h]
    have e : s.data.toList.length = s.size := by simp
    rw [e]
    have h2 := Lib.hid (le_two s.size h)
    have hl2 := Lib.hid (le_length s.size 2)
    clear e
    generalize hL : le s.size 2 = L at *
    clear hL
    go_enter Try.func33, Try.ntmps33
    go_wp2_with (first
      | (at_builtin; with_reducible refine wpList_append (o := ⟨some 19, _, _, _, _, _⟩) _ rfl _ _ 29 rfl B 5 i0 _ 1 1 Try.underlying29 hi hz0 hz1 hz2 rfl (by omega) A n c _ rfl (hx.alloc _) _ 2 2 _ rfl (by simp) (Rd.new _ _ _) (by simp; exact ⟨rfl, rfl⟩) (by omega) (by unfold maxLen; omega) (hBa _) ?_
         intro A2 c2 w2 hown2 hk2
         rw [h2.out] at hown2
         have hto2 := ((AppTo.refl hx hB).gr (Gr.alloc1 _ _)).step hown2 hk2
         clear hown2 hk2)
      | (at_builtin; with_reducible refine wpList_append_string (o := ⟨some 21, _, _, _, _, _⟩) _ rfl _ _ 29 9 rfl B 5 i0 Try.underlying29 Try.underlying9 hi hz0 hz1 hz2 _ _ _ _ rfl hto2.own s rfl (by omega) (by have := hto2.base; have := hto2.size; omega) ?_
         intro A3 c3 w3 hown3 hk3))
    go_ret
    have hto3 := hto2.step hown3 hk3
    exact ⟨A3, _, c3, rfl, Lib.hid (by have := hn.out; have := hl2.out; simp; omega), by simpa using hto3⟩
  · rw [cutS_large (by omega)]
    have e : (s.extract 0 65535).data.toList.length = min 65535 s.size := by simp
    rw [e]
    have h2 := Lib.hid (le_two (min 65535 s.size) (by omega))
    have hl2 := Lib.hid (le_length (min 65535 s.size) 2)
    clear e
    generalize hL : le (min 65535 s.size) 2 = L at *
    clear hL
    go_enter Try.func33, Try.ntmps33
    go_wp2_with (first
      | (at_builtin; with_reducible refine wpList_append (o := ⟨some 19, _, _, _, _, _⟩) _ rfl _ _ 29 rfl B 5 i0 _ 1 1 Try.underlying29 hi hz0 hz1 hz2 rfl (by omega) A n c _ rfl (hx.alloc _) _ 2 2 _ rfl (by simp) (Rd.new _ _ _) (by simp; exact ⟨rfl, rfl⟩) (by omega) (by unfold maxLen; omega) (hBa _) ?_
         intro A2 c2 w2 hown2 hk2
         rw [h2.out] at hown2
         have hto2 := ((AppTo.refl hx hB).gr (Gr.alloc1 _ _)).step hown2 hk2
         clear hown2 hk2)
      | (at_builtin; with_reducible refine wpList_append_string (o := ⟨some 21, _, _, _, _, _⟩) _ rfl _ _ 29 9 rfl B 5 i0 Try.underlying29 Try.underlying9 hi hz0 hz1 hz2 _ _ _ _ rfl hto2.own _ rfl (by simp; omega) (by have := hto2.base; have := hto2.size; omega) ?_
         intro A3 c3 w3 hown3 hk3))
    go_ret
    have hto3 := hto2.step hown3 hk3
    have e3 : n + 2 + (s.extract 0 65535).size = n + 2 + min 65535 s.size := by simp
    rw [e3] at hto3
    exact ⟨A3, _, c3, rfl, Lib.hid (by have := hn.out; have := hl2.out; simp; omega), by simpa using hto3⟩
end Go.Proofs.Ytcfbkhgdlgnmgaa.Cd
set_option linter.unusedVariables false
set_option linter.unusedSimpArgs false
set_option maxRecDepth 100000
namespace Go.Proofs.Ytcfbkhgdlgnmgaa
open Go.RowKit Go.Maps Go.Sort
attribute [local go_sem] Vc.known_tmp Vc.known_const Vc.known_func Vc.known_global Vc.lk Vc.okUpon Vc.Fact.holds
def frC (f : Fl) : List Value := [encStr f.1, encStr f.2]
theorem frC_len : ∀ l : List Fl, (l.flatMap frC).length = l.length * 2
  | [] => rfl
  | x :: r => by simp [List.flatMap_cons, frC, frC_len r]; omega
theorem frC_get : ∀ (l : List Fl) {i j : Nat} (h : i < l.length), j < 2 → (l.flatMap frC)[i * 2 + j]? = (frC l[i])[j]?
  | x :: r, 0, j, h, hj => by
    rw [List.flatMap_cons, List.getElem?_append_left (by simp [frC]; omega)]
    simp
  | x :: r, i + 1, j, h, hj => by
    rw [List.flatMap_cons, List.getElem?_append_right (by simp [frC]; omega), show (i + 1) * 2 + j - (frC x).length = i * 2 + j from by simp [frC]; omega]
    exact frC_get r (by simpa using h) hj
theorem frC_at {w : World} {A : Option Addr} {l : List Fl} (h : Rd w A (l.flatMap frC)) {i : Nat} (hi : i < l.length) : ∃ g off, A = some ⟨g, off, none⟩ ∧ w.cell? ⟨g, off + i * 2, none⟩ = some (encStr l[i].1) ∧ w.cell? ⟨g, off + i * 2 + 1, none⟩ = some (encStr l[i].2) := by
  obtain ⟨g, off, rfl, hg⟩ := h.spot (by rw [frC_len]; omega)
  exact ⟨g, off, rfl, hg _ _ (frC_get l (j := 0) hi (by omega)), hg _ _ (frC_get l (j := 1) hi (by omega))⟩
theorem info_rfile : (Try.prog.info? 62).map (fun i => (i.zero, i.size, i.bytes)) = some (some (.agg #[.string ByteArray.empty, .string ByteArray.empty]), 2, 32) := by kernel_rfl
theorem frC_snoc (l : List Fl) {j : Nat} (h : j < l.length) : (l.take (j + 1)).flatMap frC = (l.take j).flatMap frC ++ frC l[j] := by
  rw [List.take_succ_eq_append_getElem h, List.flatMap_append]
  simp
section
variable {Z : Nat → Prop} {w w' : World} {A : Option Addr} {rs : List FlR}
set_option maxHeartbeats 1000000 in
theorem of_own (h : FlS w Z A rs) (c : Nat) (hl : rs.length ≤ 255) :
    Calls Try.prog 14 #[.slice A rs.length c] w fun e w' => ∃ A' c', e = .returned (.slice A' rs.length c') ∧ rs.length ≤ c' ∧ Rd w' A' ((rs.map FlR.fl).flatMap frC) ∧ Gr w w' ∧ ∀ ad, A' = some ad → w.heap.size ≤ ad.block := by
  obtain ⟨i0, hi, hz0, hz1, hz2⟩ := info_parts info_rfile
  have hlm : (rs.map FlR.fl).length = rs.length := List.length_map ..
  generalize hn : rs.length = n at hl hlm ⊢
  go_enter Try.func14, Try.ntmps14
  go_wp2_with fail
  go_loopw [3, 4] (fun t i wr => ∃ j : Nat, j ≤ n ∧ i = .int .i64 j ∧ ∃ A' c', t = .slice A' j c' ∧ Hid (Own wr w.heap.size 62 2 A' j c' (((rs.map FlR.fl).take j).flatMap frC)) ∧ Gr w wr) (fun _ i _ => n - (intOf i).toNat)
  case atStart => exact ⟨0, by omega, rfl, none, 0, rfl, Lib.hid (Own.nil _ _ _ _), Gr.rfl' _⟩
  case round =>
    obtain ⟨j, hj, rfl, A1, c1, rfl, hfl, hg⟩ := hrel
    by_cases hlt : j < n
    · have hjl : j < rs.length := by omega
      have hgs := frC_snoc (rs.map FlR.fl) (j := j) (by omega)
      rw [List.getElem_map] at hgs
      have hgs := Lib.hid hgs
      obtain ⟨g, off, rfl, x0, x1⟩ := (h.gr hg).at_ hjl
      have hqq := Lib.hid (fun W (hW : Gr wr W) => ((h.gr hg).gr hW).ok _ (List.getElem_mem hjl))
      have hlen1 := (h.ok _ (List.getElem_mem hjl)).1.len.out
      have HC1 := Lib.hid (fun W (hW : Gr wr W) => run_str (P := Try.prog) (hqq.out W hW).1.rd 29 9 5 rs[j].q.n rs[j].q.c hlen1.symm Try.underlying29 Try.underlying5 Try.underlying9)
      obtain ⟨qb, hqb⟩ : ∃ x : Str, x = rs[j].q.b := ⟨_, rfl⟩
      have hfc : frC rs[j].fl = [encStr rs[j].nm, .string ⟨qb.toArray⟩] := by rw [hqb]; rfl
      rw [hfc] at hgs
      rw [← hqb] at HC1
      clear hqq hlen1 hqb hfc
      generalize rs[j].q.n = qn at *
      generalize rs[j].q.A = qA at *
      generalize rs[j].q.c = qc at *
      generalize rs[j].nm = nm at *
      go_wp2_with fail
      refine Vc.wp_region_split ⟨Gr, fun _ => Gr, fun _ W => Gr wr W, []⟩ 14 [] (by kernel_rfl) (by kernel_rfl) (by kernel_rfl) (by decide) (by simp) (by simp) (by simp) (fun _ _ h => h.size) (fun _ _ _ h => h.size) (fun _ _ _ h h' => h'.trans' h) (Gr.draw _) ?_
      repeat
        refine Vc.Walk.pure (v := ?_) (fun _ => Gr.rfl' _) rfl (by first | exact Vc.GuardYes.no rfl | exact Vc.GuardYes.yes rfl rfl) rfl rfl ?_ ?_
        rotate_left
        · intro _ W hI
          (have y0 := hI.g.cell x0; have y1 := hI.g.cell x1; have hcv := HC1.out _ hI.g; clear hI)
          go_simp
          exact rfl
      refine Vc.Walk.call (.fits (Vc.All fun v W => ∃ g, v = .slice (some ⟨g, 0, none⟩) 1 1 ∧ Row W g 62 [encStr nm, .string ⟨qb.toArray⟩])) (Vc.All.stable (fun u W W' hl hf => by obtain ⟨g, e, hR⟩ := hf; exact ⟨g, e, hR.gr hl⟩) (fun _ u W W' _ hl hf => by obtain ⟨g, e, hR⟩ := hf; exact ⟨g, e, hR.gr hl⟩)) (.no rfl) rfl rfl ?_ ?_
      · intro k W hI
        clear hI
        go_simp
        exact ⟨⟨_, rfl, Row.new W _ [encStr nm, .string ⟨qb.toArray⟩]⟩, Gr.alloc1 _ _⟩
      intro W hW
      have hW : Gr wr W := hW
      simp only [List.reverse_cons, List.reverse_nil, List.nil_append, List.cons_append, Vc.finish, Act.put, List.setIfInBounds_toArray, List.set_cons_zero, List.set_cons_succ]
      rintro u24 ⟨g24, rfl, hR24⟩ _
      simp only [List.drop_succ_cons, List.drop_zero]
      have hown := Lib.hid (hfl.out.gr hW)
      have hsz := Nat.le_trans hg.size hW.size
      have hR24 := Lib.hid hR24
      clear x0 x1 HC1
      go_wp2_with (at_builtin; with_reducible refine wpList_append (o := ⟨some 25, _, _, _, _, _⟩) _ rfl _ _ 27 rfl w.heap.size 62 i0 _ 2 32 Try.underlying27 hi hz0 hz1 hz2 rfl (by omega) A1 j c1 _ rfl hown.out _ 1 1 [encStr nm, .string ⟨qb.toArray⟩] rfl rfl (Rd.of_row' hR24.out) (by simp [Value.oneCell']) (by omega) (by unfold maxLen; omega) hsz ?_
                   intro A6 c6 w6 ho6 hk6
                   have hq6 := Lib.hid (And.intro ho6 hk6)
                   clear ho6 hk6)
      go_roundw
      case rel =>
        obtain ⟨q1, q2⟩ := hq6.out
        refine ⟨j + 1, by omega, by go_num, A6, c6, rfl, Lib.hid ?_, Gr.grownBk (hg.trans' hW) q2.grown (fun g' e => (hown.out.blk g' e).1)⟩
        rw [hgs.out]
        exact q1
      case measure => simp [intOf]; omega
    · obtain rfl : j = n := by omega
      have hr := hfl.out.rd
      have hle := hfl.out.le.1
      rw [List.take_of_length_le (by omega)] at hr
      have hr := Lib.hid hr
      have hbk := Lib.hid (fun ad (e : A1 = some ad) => (hfl.out.blk ad.block (by rw [e]; rfl)).1)
      clear hfl
      go_wp2
      go_ret
      exact ⟨A1, c1, rfl, hle, hr.out, hg, hbk.out⟩
end
def OwnBs (B : Nat) (bs : Str) (v : Value) (W : World) : Prop := ∃ A n c, v = .slice A n c ∧ Hid (bs.length = n) ∧ Own W B 5 1 A n c (bs.map bv)
theorem OwnBs.gr {B : Nat} {bs : Str} {v : Value} {w w' : World} (hg : Gr w w') (h : OwnBs B bs v w) : OwnBs B bs v w' := by
  obtain ⟨A, n, c, e, hn, ho⟩ := h
  exact ⟨A, n, c, e, hn, ho.gr hg⟩
theorem OwnBs.of {w0 w w' : World} {A : Option Addr} {n c : Nat} {xs : List Value} {bs bs' : Str} {e : Ending} (h : Cd.AppB w w0.heap.size A bs' bs e w') (hg : Gr w0 w) (ho : Own w w0.heap.size 5 1 A n c xs) : ∃ v, e = .returned v ∧ OwnBs w0.heap.size bs v w' ∧ Gr w0 w' := by
  obtain ⟨A', n', c', rfl, hn', ht⟩ := h
  exact ⟨_, rfl, ⟨_, _, _, rfl, hn', ht.own⟩, Gr.grownBk hg ht.grown (fun g e => (ho.blk g e).1)⟩
theorem rtext_any (w0 : World) (A : Option Addr) (n c : Nat) (bs s : Str) (w : World) (hg : Gr w0 w) (hn : Hid (bs.length = n)) (hx : Own w w0.heap.size 5 1 A n c (bs.map bv)) (hl : n ≤ 140737488285000) (hs : s.length ≤ maxLen) :
    Calls Try.prog 33 #[.slice A n c, .string ⟨s.toArray⟩] w fun e w' => ∃ v, e = .returned v ∧ OwnBs w0.heap.size (bs ++ textB s) v w' ∧ Gr w0 w' := by
  refine (Cd.xText_any w0.heap.size A n c bs ⟨s.toArray⟩ w hn hx hg.size hl (by simpa [ByteArray.size] using hs)).mono fun e w' h => ?_
  rw [text_is] at h
  exact OwnBs.of h hg hx
set_option maxHeartbeats 4000000 in
theorem rbytes_any {w : World} {A : Option Addr} {l : List Fl} (h : Rd w A (l.flatMap frC)) (c : Nat) (hl : l.length ≤ 255) (hb : ∀ f ∈ l, f.1.length ≤ maxLen ∧ f.2.length ≤ maxLen) :
    Calls Try.prog 13 #[.slice A l.length c] w fun e w' => e = .returned (.string ⟨(bytesM l).toArray⟩) ∧ Gr w w' := by
  rw [← bytesTo_all l]
  generalize hn : l.length = n at hl ⊢
  have H0 := Lib.hid (show Calls Try.prog 21 #[.slice none 0 0, .int .i64 n] w fun e w' => ∃ v, e = .returned v ∧ OwnBs w.heap.size (bytesTo n []) v w' ∧ Gr w w' from
    (Cd.xByte_any w.heap.size none 0 0 [] n w (Lib.hid rfl) (Own.nil _ _ _ _) (Nat.le_refl _) (by omega)).mono fun e w' h => OwnBs.of h (Gr.rfl' _) (Own.nil _ _ _ _))
  go_enter Try.func13, Try.ntmps13
  go_wp2_with (go_at_call 21; refine H0.out.mono ?_; rintro e w1 ⟨v1, rfl, hv1, hg1⟩)
  clear H0
  go_loopw [3, 4] (fun t i wr => ∃ j : Nat, j ≤ n ∧ i = .int .i64 j ∧ Hid (OwnBs w.heap.size (bytesTo n (l.take j)) t wr) ∧ Gr w wr) (fun _ i _ => n - (intOf i).toNat)
  case atStart => exact ⟨0, by omega, rfl, Lib.hid hv1, hg1⟩
  case round =>
    obtain ⟨j, hj, rfl, hv, hg⟩ := hrel
    by_cases hlt : j < n
    · have hjl : j < l.length := by omega
      obtain ⟨g, off, rfl, x0, x1⟩ := frC_at h hjl
      have hsn := bytesTo_snoc n (l.take j) l[j]
      rw [← List.take_succ_eq_append_getElem hjl] at hsn
      have hle := bytesTo_le n (l.take j)
      rw [List.length_take] at hle
      obtain ⟨A1, n1, c1, rfl, hn1, ho1⟩ := hv.out
      obtain ⟨hb1, hb2⟩ := hb _ (List.getElem_mem hjl)
      clear hv
      obtain ⟨B, hB⟩ : ∃ B, B = bytesTo n (l.take j) := ⟨_, rfl⟩
      rw [← hB] at hsn hle hn1 ho1
      generalize l[j].1 = nm at *
      generalize l[j].2 = qb at *
      have hB1 := hn1.out
      have hntl := textB_le nm
      have HT1 := Lib.hid (fun W (hgW : Gr w W) (hgr : Gr wr W) => rtext_any w A1 n1 c1 B nm W hgW hn1 (ho1.gr hgr) (by omega) hb1)
      obtain ⟨B2, hB2⟩ : ∃ x, x = B ++ textB nm := ⟨_, rfl⟩
      obtain ⟨B3, hB3⟩ : ∃ x, x = B2 ++ textB qb := ⟨_, rfl⟩
      have hBn : B2.length ≤ 140737488285000 := by rw [hB2, List.length_append]; omega
      have HT2 := Lib.hid (fun A2 n2 c2 W (hgW : Gr w W) (hn2 : Hid (B2.length = n2)) (ho2 : Own W w.heap.size 5 1 A2 n2 c2 (B2.map bv)) => rtext_any w A2 n2 c2 B2 qb W hgW hn2 ho2 (by have := hn2.out; omega) hb2)
      have hsn := Lib.hid (show bytesTo n (l.take (j + 1)) = B3 from by rw [hB3, hB2]; exact hsn)
      rw [← hB2] at HT1
      rw [← hB3] at HT2
      clear hB hB2 hB3 hB1 hntl hle hBn ho1 hb1 hb2
      go_wp2_with fail
      refine Vc.wp_region_facts ⟨Gr, fun _ _ _ => True, fun k W => Gr w W ∧ (k = 0 → Gr wr W), [6, 12]⟩ (by kernel_rfl) (by kernel_rfl) (fun _ _ _ h h' => ⟨h'.1.trans' h, fun e => (h'.2 e).trans' h⟩) ⟨hg.trans' (Gr.draw _), fun _ => Gr.draw _⟩ ?_
      repeat
        refine Vc.Walk.pure (v := ?_) (fun _ => Gr.rfl' _) rfl (by first | exact Vc.GuardYes.no rfl | exact Vc.GuardYes.yes rfl rfl) rfl rfl ?_ ?_
        rotate_left
        · intro _ W hI
          (have y0 := hI.g.1.cell x0; have y1 := hI.g.1.cell x1; clear hI)
          go_simp
          exact rfl
      refine Vc.Walk.any (.fits (Vc.At 1 (OwnBs w.heap.size B2))) (Vc.At.stable (fun u W W' hl hf => OwnBs.gr hl hf)) (.no rfl) ?_ ?_
      · intro ρ k W hI hf
        obtain rfl := hI.eq 0 rfl
        obtain ⟨hρ0, hρ1, hρ2, _⟩ := hf
        have e0 : ρ (.func 33) = .func (.func 33) #[] #[] := hρ0
        have e1 : ρ (.tmp 14) = .slice A1 n1 c1 := hρ1
        have e2 : ρ (.tmp 19) = encStr nm := hρ2
        obtain ⟨hg1, hg2⟩ := hI.g
        clear hI hρ0 hρ1 hρ2
        go_simp
        refine (HT1.out W hg1 (hg2 rfl)).mono ?_
        rintro e W' ⟨v, rfl, hv, hg'⟩
        exact ⟨_, rfl, ⟨Nat.le_refl _, fun _ => hv⟩, trivial, hg', fun e => by cases e⟩
      repeat
        refine Vc.Walk.pure (v := ?_) (fun _ => Gr.rfl' _) rfl (by first | exact Vc.GuardYes.no rfl | exact Vc.GuardYes.yes rfl rfl) rfl rfl ?_ ?_
        rotate_left
        · intro _ W hI
          (have y0 := hI.g.1.cell x0; have y1 := hI.g.1.cell x1; clear hI)
          go_simp
          exact rfl
      refine Vc.Walk.any (.fits (Vc.At 2 (OwnBs w.heap.size B3))) (Vc.At.stable (fun u W W' hl hf => OwnBs.gr hl hf)) (.no rfl) ?_ ?_
      · intro ρ k W hI hf
        obtain rfl := hI.eq 1 rfl
        obtain ⟨hρ0, ⟨_, hf1⟩, hρ2, _⟩ := hf
        obtain ⟨A2, n2, c2, hρ1, hn2, ho2⟩ := hf1 (Nat.le_refl _)
        have e0 : ρ (.func 33) = .func (.func 33) #[] #[] := hρ0
        have e1 : ρ (.tmp 20) = .slice A2 n2 c2 := hρ1
        have e2 : ρ (.tmp 25) = encStr qb := hρ2
        obtain ⟨hg1, hg2⟩ := hI.g
        clear hI hρ0 hρ1 hρ2 hf1
        go_simp
        refine (HT2.out A2 n2 c2 W hg1 hn2 ho2).mono ?_
        rintro e W' ⟨v, rfl, hv, hg'⟩
        exact ⟨_, rfl, ⟨Nat.le_refl _, fun _ => hv⟩, trivial, hg', fun e => by cases e⟩
      refine Vc.Walk.any (.fits (Vc.At 2 (OwnBs w.heap.size B3))) (Vc.At.stable (fun u W W' hl hf => OwnBs.gr hl hf)) (.no rfl) ?_ ?_
      · intro ρ k W hI hf
        have hk := hI.lt 1 12 rfl (by kernel_rfl)
        have hk2 : k ≤ 2 := hI.top
        obtain rfl : k = 2 := by omega
        obtain ⟨⟨_, hf1⟩, _⟩ := hf
        obtain ⟨A2, n2, c2, hρ1, hn2, ho2⟩ := hf1 (Nat.le_refl _)
        have e1 : ρ (.tmp 26) = .slice A2 n2 c2 := hρ1
        have hh := Lib.hid (And.intro hn2 ho2)
        clear hI hρ1 hf1 hn2 ho2
        go_simp
        exact ⟨⟨Nat.le_refl _, fun _ => ⟨_, _, _, rfl, hh.out⟩⟩, Gr.rfl' _⟩
      rintro W ⟨hW, _⟩
      have hW : Gr w W := hW
      simp only [List.reverse_cons, List.reverse_nil, List.nil_append, List.cons_append, Vc.finish, Act.put, List.setIfInBounds_toArray, List.set_cons_zero, List.set_cons_succ]
      rintro u20 _ u26 _ u3 ⟨_, hv3⟩
      have HV3 := Lib.hid (show OwnBs w.heap.size (bytesTo n (l.take (j + 1))) u3 W from by rw [hsn.out]; exact hv3 (Nat.le_refl _))
      clear hv3
      go_wp2_with fail
      go_roundw
      case rel => exact ⟨j + 1, by omega, by go_num, HV3, hW⟩
      case measure => simp [intOf]; omega
    · obtain rfl : j = n := by omega
      obtain ⟨A1, n1, c1, rfl, hn1, ho1⟩ := hv.out
      rw [List.take_of_length_le (by omega)] at hn1 ho1
      clear hv hv1
      have hr1 := ho1.rd
      have hcv := run_str (P := Try.prog) hr1 29 9 5 n1 c1 hn1.out.symm Try.underlying29 Try.underlying5 Try.underlying9
      clear hr1 ho1
      go_wp2
      go_ret
      exact ⟨rfl, hg⟩
end Go.Proofs.Ytcfbkhgdlgnmgaa
set_option linter.unusedVariables false
set_option linter.unusedSimpArgs false
set_option maxRecDepth 100000
namespace Go.Proofs.Ytcfbkhgdlgnmgaa
open Go.RowKit Go.Maps Go.Sort
theorem mayGo_at {l : List Fl} {j : Nat} (hj : j < l.length) : mayGo ((l.take j).map (·.1)) (l.drop j) =
    if nameBad l[j].1 = true then 12 else if l[j].1 ∈ (l.take j).map (·.1) then 7 else if 8000 < l[j].2.length then 5 else mayGo ((l.take (j + 1)).map (·.1)) (l.drop (j + 1)) := by
  rw [List.drop_eq_getElem_cons hj]
  show mayGo _ ((l[j].1, l[j].2) :: _) = _
  rw [mayGo, List.take_succ_eq_append_getElem hj, List.map_append]
  rfl
section
variable {w : World} {A : Option Addr} {l : List Fl}
set_option maxHeartbeats 4000000 in
theorem rfits_any (h : Rd w A (l.flatMap frC)) (c : Nat) (hl : l.length ≤ 255) (hb : ∀ f ∈ l, f.1.length ≤ maxLen ∧ f.2.length ≤ maxLen) :
    Calls Try.prog 52 #[.slice A l.length c] w fun e w' => e = .returned (.int .i64 (mayM l)) ∧ w = w' := by
  obtain ⟨res, hres⟩ : ∃ r, mayM l = r := ⟨_, rfl⟩
  rw [hres]
  have hres : (if l.length < 1 ∨ 8 < l.length then 1 else mayGo [] l) = res := by rw [← hres]; rfl
  have HRES := Lib.hid hres
  clear hres
  generalize hn : l.length = n at hl HRES ⊢
  by_cases h1 : n < 1
  · have e := HRES.out
    rw [if_pos (.inl h1)] at e
    subst e
    have h1' : (n : Int) < 1 := by omega
    go_enter Try.func52, Try.ntmps52
    go_wp2
    go_ret
    exact ⟨rfl, rfl⟩
  by_cases h8 : 8 < n
  · have e := HRES.out
    rw [if_pos (.inr h8)] at e
    subst e
    have h1' : ¬ (n : Int) < 1 := by omega
    have h8' : (8 : Int) < n := by omega
    go_enter Try.func52, Try.ntmps52
    go_wp2
    go_ret
    exact ⟨rfl, rfl⟩
  have e := HRES.out
  rw [if_neg (by omega)] at e
  have HRE := Lib.hid e
  clear e HRES
  have h1' : ¬ (n : Int) < 1 := by omega
  have h8' : ¬ (8 : Int) < n := by omega
  go_enter Try.func52, Try.ntmps52
  go_wp2_with fail
  go_loopw [3] (fun i wr => ∃ j : Nat, j ≤ n ∧ i = .int .i64 j ∧ Hid (mayGo ((l.take j).map (·.1)) (l.drop j) = res) ∧ wr = w) (fun i _ => n - (intOf i).toNat)
  case atStart => exact ⟨0, by omega, rfl, Lib.hid HRE.out, rfl⟩
  case round =>
    obtain ⟨j, hj, rfl, hgo, hw⟩ := hrel
    replace hw := hw.symm
    subst hw
    by_cases hlt : j < n
    · have hjl : j < l.length := by omega
      obtain ⟨g, off, rfl, x0, x1⟩ := frC_at h hjl
      have hs := hgo.out
      rw [mayGo_at hjl] at hs
      obtain ⟨hnl, hql⟩ := hb _ (List.getElem_mem hjl)
      have hno := Lib.hid (show ∀ b : Bool, (b = true ↔ l[j].1 ∈ (l.take j).map (·.1)) → (∀ i (h : i < l.length), i < j → l[i].1 ≠ l[j].1) → b = false from fun b hb h => by
        cases b with
        | false => rfl
        | true =>
          obtain ⟨f, hf, e⟩ := List.mem_map.1 (hb.1 rfl)
          obtain ⟨i, hi, rfl⟩ := List.getElem_of_mem hf
          rw [List.length_take] at hi
          rw [List.getElem_take] at e
          exact absurd e (h i (by omega) (by omega)))
      have hyes := Lib.hid (fun i (hi : i < l.length) (hij : i < j) (e : l[i].1 = l[j].1) => show l[j].1 ∈ (l.take j).map (·.1) from
        List.mem_map.2 ⟨l[i], by rw [← List.getElem_take (h := by rw [List.length_take]; omega) (j := j)]; exact List.getElem_mem _, e⟩)
      obtain ⟨bb, hbb⟩ : ∃ b : Bool, (b = true ↔ l[j].1 ∈ (l.take j).map (·.1)) := ⟨decide (l[j].1 ∈ (l.take j).map (·.1)), decide_eq_true_iff⟩
      rw [show (if l[j].1 ∈ (l.take j).map (·.1) then (7 : Int) else if 8000 < l[j].2.length then 5 else mayGo ((l.take (j + 1)).map (·.1)) (l.drop (j + 1))) = if bb = true then 7 else if 8000 < l[j].2.length then 5 else mayGo ((l.take (j + 1)).map (·.1)) (l.drop (j + 1)) from by simp only [hbb]] at hs
      have hno := Lib.hid (hno.out bb hbb)
      have hyes := Lib.hid (fun i hi hij e => hbb.2 (hyes.out i hi hij e))
      clear hbb hgo
      generalize l[j].1 = nm at *
      generalize l[j].2 = qb at *
      have hsz : (⟨nm.toArray⟩ : ByteArray).size = nm.length := by simp [ByteArray.size]
      have hsz2 : (⟨qb.toArray⟩ : ByteArray).size = qb.length := by simp [ByteArray.size]
      unfold maxLen at hnl hql
      by_cases hnb : nameBad nm = true
      · rw [if_pos hnb] at hs
        subst hs
        unfold nameBad at hnb
        have hnb := of_decide_eq_true hnb
        by_cases b1 : nm = []
        · subst b1
          go_wp2_with fail
          go_ret
          exact ⟨rfl, rfl⟩
        have c1 : List.isEmpty nm = false := by cases nm with | nil => exact absurd rfl b1 | cons _ _ => rfl
        by_cases b2 : 20 < nm.length
        · have c2 : (20 : Int) < (nm.length : Int) := by omega
          go_wp2_with fail
          go_ret
          exact ⟨rfl, rfl⟩
        have c2 : ¬ (20 : Int) < (nm.length : Int) := by omega
        by_cases b3 : nm = jn
        · have c3 : (nm == [106, 111, 117, 114, 110, 97, 108]) = true := by simpa [jn] using b3
          go_wp2_with fail
          go_ret
          exact ⟨rfl, rfl⟩
        have c3 : (nm == [106, 111, 117, 114, 110, 97, 108]) = false := by simpa [jn] using b3
        have b4 : nm = mk := by
          rcases hnb with h | h | h | h
          · exact absurd h b1
          · omega
          · exact absurd h b3
          · exact h
        have c4 : (nm == [109, 97, 114, 107]) = true := by simpa [mk] using b4
        clear b1 b3 b4 hnb
        go_wp2_with fail
        go_ret
        exact ⟨rfl, rfl⟩
      · rw [if_neg hnb] at hs
        obtain ⟨b1, b2, b3, b4⟩ := nameBad_len (by simpa using hnb)
        have c1 : List.isEmpty nm = false := by cases nm with | nil => exact absurd rfl b1 | cons _ _ => rfl
        have c2 : ¬ (20 : Int) < (nm.length : Int) := by omega
        have c3 : (nm == [106, 111, 117, 114, 110, 97, 108]) = false := by simpa [jn] using b3
        have c4 : (nm == [109, 97, 114, 107]) = false := by simpa [mk] using b4
        have HS := Lib.hid hs
        clear hs b1 b3 b4 hnb
        go_wp2_with fail
        go_loopw [5] (fun k wr => ∃ m : Nat, m ≤ j ∧ k = .int .i64 m ∧ Hid (∀ i (h : i < l.length), i < m → l[i].1 ≠ nm) ∧ wr = w) (fun k _ => j - (intOf k).toNat)
        case atStart => exact ⟨0, by omega, rfl, Lib.hid (fun i h h' => absurd h' (by omega)), rfl⟩
        case round =>
          obtain ⟨m, hm, rfl, hne, hw⟩ := hrel
          replace hw := hw.symm
          subst hw
          by_cases hlt2 : m < j
          · have hml : m < l.length := by omega
            obtain ⟨g', off', e', z0, _⟩ := frC_at h hml
            injection e' with e'
            injection e' with e1 e2
            subst e1 e2
            by_cases he : l[m].1 = nm
            · have hb1 := hyes.out m hml hlt2 he
              have hs := HS.out
              rw [if_pos hb1] at hs
              subst hs
              rw [he] at z0
              clear HS hyes hno hne hb1 he
              go_wp2_with fail
              go_ret
              exact ⟨rfl, rfl⟩
            · have hf2 : (l[m].1 == nm) = false := by simpa using he
              have hne2 := Lib.hid (show ∀ i (h : i < l.length), i < m + 1 → l[i].1 ≠ nm from fun i h h' => by
                by_cases e : i = m
                · subst e; exact he
                · exact hne.out i h (by omega))
              generalize l[m].1 = nm2 at z0 hf2
              go_wp2_with fail
              go_roundw
              case rel => exact ⟨m + 1, by omega, by go_num, hne2, trivial⟩
              case measure => simp [intOf]; omega
          · obtain rfl : m = j := by omega
            have hs := HS.out
            rw [if_neg (by rw [hno.out hne.out]; simp)] at hs
            clear HS hyes hno hne
            by_cases h80 : 8000 < qb.length
            · rw [if_pos h80] at hs
              subst hs
              have h80' : (8000 : Int) < (qb.length : Int) := by omega
              go_wp2_with fail
              go_ret
              exact ⟨rfl, rfl⟩
            · rw [if_neg h80] at hs
              have h80' : ¬ (8000 : Int) < (qb.length : Int) := by omega
              have HS2 := Lib.hid hs
              clear hs
              go_wp2_with fail
              go_roundw
              case rel => exact ⟨m + 1, by omega, by go_num, HS2, trivial⟩
              case measure => simp [intOf]; omega
    · obtain rfl : j = n := by omega
      have e := hgo.out
      rw [List.drop_of_length_le (by omega)] at e
      have e : (0 : Int) = res := e
      subst e
      go_wp2
      go_ret
      exact ⟨rfl, rfl⟩
end
end Go.Proofs.Ytcfbkhgdlgnmgaa
set_option linter.unusedVariables false
set_option linter.unusedSimpArgs false
namespace Go.Proofs.Ytcfbkhgdlgnmgaa
open Go.RowKit Go.Maps Go.Sort
theorem insBy_front {α : Type} {key : α → Str} {x : α} : ∀ {l : List α}, (∀ y ∈ l, bytesBefore (key x) (key y) = true) → insBy key x l = x :: l
  | [], _ => rfl
  | y :: r, h => by simp [insBy, h y (by simp)]
theorem bb_asymm {a b : Str} (h : bytesBefore a b = true) : bytesBefore b a = false := by
  cases h2 : bytesBefore b a with
  | false => rfl
  | true => exact absurd (bb_trans h h2) (by simp [bb_irrefl])
def withK (l : Files) (n : Str) (k : Nat) : Nat := if k < l.length ∧ (l[k]?.map (·.1)) = some n then k + 1 else k
theorem act_split {c : Ch} : ∀ {l : Files} {k : Nat}, l.Rising → k ≤ l.length → (∀ j (h : j < l.length), j < k → bytesBefore l[j].1 c.name = true) → (∀ h : k < l.length, bytesBefore l[k].1 c.name = false) →
    c.act l = l.take k ++ (if c.gone then [] else [(c.name, c.b)]) ++ l.drop (withK l c.name k)
  | [], k, _, hk, _, _ => by
    simp at hk
    subst hk
    unfold Ch.act Files.del Files.put insBy
    cases c.gone <;> simp
  | x :: r, 0, hR, hk, _, h2 => by
    obtain ⟨h3, h4⟩ := List.pairwise_cons.1 hR
    have hx : bytesBefore x.1 c.name = false := h2 (by simp)
    by_cases he : x.1 = c.name
    · have hall : ∀ p ∈ r, bytesBefore c.name p.1 = true := fun p hp => he ▸ h3 p hp
      have hf : (x :: r).filter (fun p => !(p.1 == c.name)) = r := by
        rw [List.filter_cons]
        simp only [he, beq_self_eq_true, Bool.not_true, Bool.false_eq_true, if_false]
        refine List.filter_eq_self.2 fun p hp => ?_
        have h5 := hall p hp
        have : p.1 ≠ c.name := fun e => by rw [e, bb_irrefl] at h5; cases h5
        simpa using this
      have hw : withK (x :: r) c.name 0 = 1 := by simp [withK, he]
      rw [hw]
      unfold Ch.act Files.del Files.put
      rw [hf]
      cases c.gone with
      | true => simp
      | false => simp [insBy_front (key := fun p : Str × Str => p.1) (x := (c.name, c.b)) hall]
    · have hb : bytesBefore c.name x.1 = true := by
        rcases bb_total he with h | h
        · rw [hx] at h; cases h
        · exact h
      have hall : ∀ p ∈ x :: r, bytesBefore c.name p.1 = true := fun p hp => by
        rcases List.mem_cons.1 hp with rfl | hp
        · exact hb
        · exact bb_trans hb (h3 p hp)
      have hf : (x :: r).filter (fun p => !(p.1 == c.name)) = x :: r := by
        refine List.filter_eq_self.2 fun p hp => ?_
        have h5 := hall p hp
        have : p.1 ≠ c.name := fun e => by rw [e, bb_irrefl] at h5; cases h5
        simpa using this
      have hw : withK (x :: r) c.name 0 = 0 := by simp [withK, he]
      rw [hw]
      unfold Ch.act Files.del Files.put
      rw [hf]
      cases c.gone with
      | true => simp
      | false => simp [insBy_front (key := fun p : Str × Str => p.1) (x := (c.name, c.b)) hall]
  | x :: r, k + 1, hR, hk, h1, h2 => by
    obtain ⟨h3, h4⟩ := List.pairwise_cons.1 hR
    have hx : bytesBefore x.1 c.name = true := h1 0 (by simp) (by omega)
    have hne : x.1 ≠ c.name := fun e => by rw [e, bb_irrefl] at hx; cases hx
    have ih := act_split (c := c) (l := r) (k := k) h4 (by simpa using hk) (fun j h hj => h1 (j + 1) (Nat.succ_lt_succ h) (by omega)) (fun h => h2 (Nat.succ_lt_succ h))
    have hw : withK (x :: r) c.name (k + 1) = withK r c.name k + 1 := by
      unfold withK
      simp only [List.length_cons, Nat.add_lt_add_iff_right, List.getElem?_cons_succ]
      split <;> rfl
    have ha : c.act (x :: r) = x :: c.act r := by
      have e' : (x.1 == c.name) = false := by simpa using hne
      unfold Ch.act Files.del Files.put
      cases c.gone with
      | true => simp [List.filter_cons, e']
      | false => simp [List.filter_cons, e', insBy, bb_asymm hx]
    rw [hw, ha, ih]
    simp
def actAll (l : Files) (cs : List Ch) : Files := cs.foldl (fun l c => c.act l) l
theorem actAll_take (l : Files) (cs : List Ch) {i : Nat} (h : i < cs.length) : actAll l (cs.take (i + 1)) = cs[i].act (actAll l (cs.take i)) := by
  unfold actAll
  rw [List.take_succ_eq_append_getElem h, List.foldl_append]
  rfl
theorem actAll_rising : ∀ (cs : List Ch) {l : Files}, l.Rising → (actAll l cs).Rising
  | [], _, h => h
  | c :: cs, l, h => actAll_rising cs (act_rising h c)
theorem actAll_length : ∀ (cs : List Ch) (l : Files), (actAll l cs).length ≤ l.length + cs.length
  | [], _ => Nat.le_refl _
  | c :: cs, l => by
    have h1 := actAll_length cs (c.act l)
    have h2 := act_length l c
    show (actAll (c.act l) cs).length ≤ l.length + (cs.length + 1)
    omega
theorem actAll_snoc (l : Files) (cs : List Ch) (c : Ch) : actAll l (cs ++ [c]) = c.act (actAll l cs) := by unfold actAll; rw [List.foldl_append]; rfl
def Nw (s : V) : Prop := s.now = actAll s.kept s.since
theorem nw_new (r : Int) : Nw (V.new r) := rfl
theorem nw_done {s : V} (h : Nw s) (c : Ch) : Nw (s.done c) := by
  show c.act s.now = actAll s.kept (s.since ++ [c])
  rw [actAll_snoc, h]
theorem nw_flush {s : V} (h : Nw s) : Nw s.flush.1 := by
  unfold V.flush
  split
  · exact h
  · split
    · exact h
    · rfl
theorem nw_crash (s : V) (ks : List Int) : Nw (s.crash ks) := rfl
theorem used_append (a b : Files) : Files.used (a ++ b) = Files.used a + Files.used b := by simp [Files.used]
theorem used_take_succ (l : Files) {i : Nat} (h : i < l.length) : Files.used (l.take (i + 1)) = Files.used (l.take i) + l[i].2.length := by
  rw [List.take_succ_eq_append_getElem h, used_append]
  simp [Files.used]
theorem used_take_le (l : Files) (i : Nat) : Files.used (l.take i) ≤ Files.used l := by
  have := used_append (l.take i) (l.drop i)
  rw [List.take_append_drop] at this
  omega
theorem get_at {l : Files} {i : Nat} (h : i < l.length) {n : Str} (h1 : ∀ j (h : j < l.length), j < i → l[j].1 ≠ n) (h2 : l[i].1 = n) : l.get n = some l[i].2 := by
  unfold Files.get
  rw [List.find?_eq_some_iff_getElem.2 ⟨by simpa using h2, i, h, rfl, fun j hj => by simpa using h1 j (by omega) hj⟩]
  rfl
theorem get_not {l : Files} {n : Str} (h1 : ∀ j (h : j < l.length), l[j].1 ≠ n) : l.get n = none :=
  get_none.2 fun p hp => by
    obtain ⟨i, hi, rfl⟩ := List.getElem_of_mem hp
    exact h1 i hi
def fc (q : Str × Str) : List Value := [encStr q.1, encStr q.2]
def oc (c : Ch) : List Value := [encStr c.name, encStr c.b, .bool c.gone]
theorem flat_len {α : Type} {f : α → List Value} {k : Nat} (hf : ∀ x, (f x).length = k) : ∀ l : List α, (l.flatMap f).length = l.length * k
  | [] => by simp
  | x :: r => by rw [List.flatMap_cons, List.length_append, hf, flat_len hf r, List.length_cons, Nat.add_mul, Nat.one_mul, Nat.add_comm]
theorem flat_get {α : Type} {f : α → List Value} {k : Nat} (hf : ∀ x, (f x).length = k) : ∀ (l : List α) {i j : Nat}, (h : i < l.length) → j < k → (l.flatMap f)[i * k + j]? = (f l[i])[j]?
  | [], i, j, h, _ => by simp at h
  | x :: r, 0, j, h, hj => by
    rw [List.flatMap_cons, List.getElem?_append_left (by rw [hf]; omega)]
    simp
  | x :: r, i + 1, j, h, hj => by
    rw [List.flatMap_cons, List.getElem?_append_right (by rw [hf, Nat.add_mul]; omega)]
    have := flat_get hf r (i := i) (j := j) (by simpa using h) hj
    rw [hf]
    rw [show (i + 1) * k + j - k = i * k + j by rw [Nat.add_mul]; omega]
    simpa using this
theorem fc_len (q : Str × Str) : (fc q).length = 2 := rfl
theorem oc_len (c : Ch) : (oc c).length = 3 := rfl
theorem fc_one (l : Files) : ∀ u ∈ l.flatMap fc, u.oneCell' = true := by
  intro u hu
  obtain ⟨q, _, hq⟩ := List.mem_flatMap.1 hu
  simp only [fc, List.mem_cons, List.not_mem_nil, or_false] at hq
  rcases hq with rfl | rfl <;> rfl
theorem flat_drop {α : Type} {f : α → List Value} {k : Nat} (hf : ∀ x, (f x).length = k) (l : List α) (i : Nat) : (l.flatMap f).drop (i * k) = (l.drop i).flatMap f := by
  by_cases h : i ≤ l.length
  · conv => lhs; rw [← List.take_append_drop i l]
    rw [List.flatMap_append, List.drop_append_of_le_length (by rw [flat_len hf, List.length_take, Nat.min_eq_left h]; exact Nat.le_refl _), List.drop_of_length_le (by rw [flat_len hf, List.length_take, Nat.min_eq_left h]; exact Nat.le_refl _)]
    simp
  · rw [List.drop_of_length_le (by rw [flat_len hf]; exact Nat.mul_le_mul_right _ (by omega)), List.drop_of_length_le (by omega)]
    rfl
section
variable {w w' : World} {B : Nat} {A : Option Addr} {c : Nat}
abbrev FOwn (w : World) (B : Nat) (A : Option Addr) (n c : Nat) (l : Files) : Prop := Own w B 115 2 A n c (l.flatMap fc)
abbrev OOwn (w : World) (B : Nat) (A : Option Addr) (n c : Nat) (l : List Ch) : Prop := Own w B 96 3 A n c (l.flatMap oc)
theorem own_head {e : TypeId} {k n : Nat} {xs : List Value} (h : Own w B e k A n c xs) (h0 : 0 < xs.length) : ∃ g, A = some ⟨g, 0, none⟩ ∧ ∀ (j : Nat) (u : Value), xs[j]? = some u → w.cell? ⟨g, j, none⟩ = some u := by
  rcases h.2 with ⟨rfl, rfl, _⟩ | ⟨g, rest, rfl, hb, hr, r⟩
  · have := h.1
    omega
  · refine ⟨g, rfl, fun j u hu => ?_⟩
    rw [hr.cell, List.getElem?_append_left (List.getElem?_eq_some_iff.1 hu).1, hu]
theorem fown_at {n : Nat} {l : Files} (h : FOwn w B A n c l) {i : Nat} (hi : i < l.length) : ∃ g, A = some ⟨g, 0, none⟩ ∧ w.cell? ⟨g, i * 2, none⟩ = some (encStr l[i].1) ∧ w.cell? ⟨g, i * 2 + 1, none⟩ = some (encStr l[i].2) := by
  obtain ⟨g, rfl, hg⟩ := own_head h (by rw [flat_len fc_len]; omega)
  exact ⟨g, rfl, hg _ _ (flat_get fc_len l (j := 0) hi (by omega)), hg _ _ (flat_get fc_len l (j := 1) hi (by omega))⟩
theorem oown_at {n : Nat} {l : List Ch} (h : OOwn w B A n c l) {i : Nat} (hi : i < l.length) : ∃ g, A = some ⟨g, 0, none⟩ ∧ w.cell? ⟨g, i * 3, none⟩ = some (encStr l[i].name) ∧ w.cell? ⟨g, i * 3 + 1, none⟩ = some (encStr l[i].b) ∧ w.cell? ⟨g, i * 3 + 2, none⟩ = some (.bool l[i].gone) := by
  obtain ⟨g, rfl, hg⟩ := own_head h (by rw [flat_len oc_len]; omega)
  exact ⟨g, rfl, hg _ _ (flat_get oc_len l (j := 0) hi (by omega)), hg _ _ (flat_get oc_len l (j := 1) hi (by omega)), hg _ _ (flat_get oc_len l (j := 2) hi (by omega))⟩
theorem fown_len {n : Nat} {l : Files} (h : FOwn w B A n c l) : l.length = n := by have := h.1; rw [flat_len fc_len] at this; omega
theorem oown_len {n : Nat} {l : List Ch} (h : OOwn w B A n c l) : l.length = n := by have := h.1; rw [flat_len oc_len] at this; omega
end
def refCells (A1 : Option Addr) (c1 : Nat) (A2 : Option Addr) (c2 : Nat) (s : V) : List Value :=
  [.slice A1 s.kept.length c1, .slice A2 s.since.length c2, .int .i64 s.room, .int .i64 s.stop, .bool s.dead, .int .i64 s.ops]
structure RMem (w : World) (X : Nat → Prop) (p : Nat) (A1 : Option Addr) (c1 : Nat) (A2 : Option Addr) (c2 : Nat) (s : V) : Prop where
  row : Row w p 90 (refCells A1 c1 A2 c2 s)
  kept : FOwn w 0 A1 s.kept.length c1 s.kept
  since : OOwn w 0 A2 s.since.length c2 s.since
  xp : X p
  x1 : ∀ g, blkOf A1 = some g → X g
  x2 : ∀ g, blkOf A2 = some g → X g
  lt : ∀ i, X i → i < w.heap.size
def RAt (w : World) (X : Nat → Prop) (p : Nat) (s : V) : Prop := s.Ok ∧ Nw s ∧ ∃ A1 c1 A2 c2, RMem w X p A1 c1 A2 c2 s
section
variable {X X' Y : Nat → Prop} {w w' : World} {p : Nat} {A1 A2 : Option Addr} {c1 c2 : Nat} {s : V}
theorem own_tr {e : TypeId} {k B n c : Nat} {A : Option Addr} {xs : List Value} (h : Own w B e k A n c xs) (t : Tr Y w w') (hd : ∀ g, blkOf A = some g → ¬ Y g) : Own w' B e k A n c xs := by
  refine ⟨h.1, ?_⟩
  rcases h.2 with h0 | ⟨g, rest, rfl, hb, hr, r⟩
  · exact .inl h0
  · exact .inr ⟨g, rest, rfl, hb, t.row hr (hd g rfl), r⟩
theorem own_row {e : TypeId} {k B n c : Nat} {A : Option Addr} {xs : List Value} (h : Own w B e k A n c xs) {g : Nat} (hg : blkOf A = some g) : ∃ ys, Row w g e ys := by
  rcases h.2 with ⟨h0, _⟩ | ⟨g', rest, rfl, hb, hr, r⟩
  · rw [h0] at hg; cases hg
  · injection hg with hg
    have hg : g' = g := hg
    subst hg
    exact ⟨_, hr⟩
theorem RMem.frame (h : RMem w X p A1 c1 A2 c2 s) (t : Tr Y w w') (hd : ∀ i, Y i → X i → False) : RMem w' X p A1 c1 A2 c2 s :=
  ⟨t.row h.row (fun hy => hd _ hy h.xp), own_tr h.kept t (fun g hg hy => hd _ hy (h.x1 g hg)), own_tr h.since t (fun g hg hy => hd _ hy (h.x2 g hg)), h.xp, h.x1, h.x2, fun i hx => Nat.lt_of_lt_of_le (h.lt i hx) t.size⟩
theorem RAt.frame (h : RAt w X p s) (t : Tr Y w w') (hd : ∀ i, Y i → X i → False) : RAt w' X p s := by
  obtain ⟨hok, hnw, A1, c1, A2, c2, h⟩ := h
  exact ⟨hok, hnw, A1, c1, A2, c2, h.frame t hd⟩
theorem RMem.gr (h : RMem w X p A1 c1 A2 c2 s) (t : Gr w w') : RMem w' X p A1 c1 A2 c2 s := h.frame (Tr.of_gr (X := fun _ => False) t) (fun _ h _ => h)
theorem RAt.gr (h : RAt w X p s) (t : Gr w w') : RAt w' X p s := h.frame (Tr.of_gr (X := fun _ => False) t) (fun _ h _ => h)
theorem RAt.lt (h : RAt w X p s) : ∀ i, X i → i < w.heap.size := by
  obtain ⟨_, _, _, _, _, _, h⟩ := h
  exact h.lt
theorem RMem.ne1 (h : RMem w X p A1 c1 A2 c2 s) {g : Nat} (hg : blkOf A1 = some g) : p ≠ g := by
  obtain ⟨ys, hr⟩ := own_row h.kept hg
  exact h.row.ne hr (by decide)
theorem RMem.ne2 (h : RMem w X p A1 c1 A2 c2 s) {g : Nat} (hg : blkOf A2 = some g) : p ≠ g := by
  obtain ⟨ys, hr⟩ := own_row h.since hg
  exact h.row.ne hr (by decide)
theorem RMem.ne12 (h : RMem w X p A1 c1 A2 c2 s) {g g' : Nat} (hg : blkOf A1 = some g) (hg' : blkOf A2 = some g') : g ≠ g' := by
  obtain ⟨ys, hr⟩ := own_row h.kept hg
  obtain ⟨zs, hr'⟩ := own_row h.since hg'
  exact hr.ne hr' (by decide)
theorem RMem.own_cells (h : RMem w X p A1 c1 A2 c2 s) {s' : V} (hr : Row w' p 90 (refCells A1 c1 A2 c2 s')) (hg : w.grownBy w' (some p)) (h2 : s'.kept = s.kept) (h3 : s'.since = s.since) : RMem w' X p A1 c1 A2 c2 s' :=
  ⟨hr, h2 ▸ h.kept.keep hg (fun g hg2 e => by injection e with e; exact h.ne1 hg2 e), h3 ▸ h.since.keep hg (fun g hg2 e => by injection e with e; exact h.ne2 hg2 e), h.xp, h.x1, h.x2, fun i hx => Nat.lt_of_lt_of_le (h.lt i hx) hg.size⟩
theorem RMem.more (h : RMem w X p A1 c1 A2 c2 s) (hX : ∀ i, X i → X' i) (hl : ∀ i, X' i → i < w.heap.size) : RMem w X' p A1 c1 A2 c2 s :=
  ⟨h.row, h.kept, h.since, hX _ h.xp, fun g hg => hX _ (h.x1 g hg), fun g hg => hX _ (h.x2 g hg), hl⟩
theorem RMem.set_kept (h : RMem w X p A1 c1 A2 c2 s) {A : Option Addr} {n c : Nat} {l : Files} (hf : FOwn w 0 A n c l) (hx : ∀ g, blkOf A = some g → X g) :
    RMem (w.setCell ⟨p, 0, none⟩ (.slice A n c)) X p A c A2 c2 { s with kept := l } := by
  have hg := only_set w p 0 (.slice A n c)
  obtain rfl := fown_len hf
  refine ⟨h.row.set 0 _, hf.keep hg ?_, h.since.keep hg (fun g hg2 e => by injection e with e; exact h.ne2 hg2 e), h.xp, hx, h.x2, fun i hx => Nat.lt_of_lt_of_le (h.lt i hx) hg.size⟩
  intro g hg2 e
  injection e with e
  obtain ⟨ys, hr⟩ := own_row hf hg2
  exact h.row.ne hr (by decide) e
theorem RMem.set_since (h : RMem w X p A1 c1 A2 c2 s) {A : Option Addr} {n c : Nat} {l : List Ch} (hf : OOwn w 0 A n c l) (hx : ∀ g, blkOf A = some g → X g) :
    RMem (w.setCell ⟨p, 1, none⟩ (.slice A n c)) X p A1 c1 A c { s with since := l } := by
  have hg := only_set w p 1 (.slice A n c)
  obtain rfl := oown_len hf
  refine ⟨h.row.set 1 _, h.kept.keep hg (fun g hg2 e => by injection e with e; exact h.ne1 hg2 e), hf.keep hg ?_, h.xp, h.x1, hx, fun i hx => Nat.lt_of_lt_of_le (h.lt i hx) hg.size⟩
  intro g hg2 e
  injection e with e
  obtain ⟨ys, hr⟩ := own_row hf hg2
  exact h.row.ne hr (by decide) e
theorem RMem.cells (h : RMem w X p A1 c1 A2 c2 s) : w.cell? ⟨p, 0, none⟩ = some (.slice A1 s.kept.length c1) ∧ w.cell? ⟨p, 1, none⟩ = some (.slice A2 s.since.length c2) ∧
    w.cell? ⟨p, 2, none⟩ = some (.int .i64 s.room) ∧ w.cell? ⟨p, 3, none⟩ = some (.int .i64 s.stop) ∧ w.cell? ⟨p, 4, none⟩ = some (.bool s.dead) ∧ w.cell? ⟨p, 5, none⟩ = some (.int .i64 s.ops) :=
  ⟨h.row.cell 0, h.row.cell 1, h.row.cell 2, h.row.cell 3, h.row.cell 4, h.row.cell 5⟩
theorem RMem.frozen (h : RMem w X p A1 c1 A2 c2 s) (i : Nat) : w.frozen? ⟨p, i, none⟩ = false := h.row.frozen i
end
end Go.Proofs.Ytcfbkhgdlgnmgaa
