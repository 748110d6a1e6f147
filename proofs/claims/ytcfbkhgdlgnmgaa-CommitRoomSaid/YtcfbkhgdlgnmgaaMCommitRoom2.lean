/- Texts on the way to 'CommitRoom', one behind the other (part 2). -/
import Derived.Test.YtcfbkhgdlgnmgaaMCommitRoom1
import Derived.Test.YtcfbkhgdlgnmgaaChecked
import Derived.ProofKit
import Derived.OpenShut
import Derived.ShutString
import Derived.ChangeOld
import Derived.SliceStrings
import Derived.Deep.Slices
import Derived.Maps.OwnOps
import Derived.Maps.OwnSet
import Derived.Maps.RangeWalk
import Derived.Maps.Ext
import Derived.Sort.EncStr
import Derived.Test.YtcfbkhgdlgnmgaaProg
import Derived.Test.YtcfbkhgdlgnmgaaShelf
import Derived.Sort.OwnSorted
import Derived.Sort.Grow
import Derived.Lib.OwnBridge
import Derived.Handy
import Derived.Shelf.AbstractIn
import Derived.WalkKit
import Derived.Orders
import Derived.KernelRfl
import Derived.ScopeJumps
import Derived.WalkMore
set_option linter.unusedVariables false
set_option linter.unusedSimpArgs false
namespace Go.Proofs.Ytcfbkhgdlgnmgaa
open Go.RowKit Cd
abbrev Fl := Str × Str
def jn : Str := [106, 111, 117, 114, 110, 97, 108]
def mk : Str := [109, 97, 114, 107]
def nameBad (n : Str) : Bool := decide (n = [] ∨ 20 < n.length ∨ n = jn ∨ n = mk)
def mayGo : List Str → List Fl → Int
  | _, [] => 0
  | seen, (n, b) :: l => if nameBad n = true then 12 else if n ∈ seen then 7 else if 8000 < b.length then 5 else mayGo (seen ++ [n]) l
def mayM (l : List Fl) : Int := if l.length < 1 ∨ 8 < l.length then 1 else mayGo [] l
def textB (s : Str) : Str := le (min s.length 65535) 2 ++ s.take 65535
def bytesM (l : List Fl) : Str := u8 (l.length : Int) :: l.flatMap fun f => textB f.1 ++ textB f.2
def readGo : Nat → Rs → List Fl → List Fl × Rs
  | 0, r, l => (l, r)
  | k + 1, r, l => readGo k (textS (textS r).2).2 (l ++ [((textS r).1, (textS (textS r).2).1)])
def readM (b : Str) : List Fl × Int :=
  let r0 := byteS (b, 0)
  let o := readGo r0.1.toNat r0.2 []
  if endS o.2 ≠ 0 ∨ mayM o.1 ≠ 0 then ([], 10) else (o.1, 0)
def growM (v : V) (l : List Fl) : Nat := (l.map fun f => f.2.length - ((v.now.get f.1).getD []).length).sum
def fitsM (v : V) (l : List Fl) (b : Str) : Int := if v.dead then 15 else if v.room < v.now.used + b.length + growM v l then 14 else 0
def putM (v : V) (n b : Str) : V × Int := if (v.write n b).2 ≠ 0 then v.write n b else (v.write n b).1.flush
def awayM (v : V) (n : Str) : V × Int := if (v.remove n).2 ≠ 0 then v.remove n else (v.remove n).1.flush
def writeAll : V → List Fl → V × Int
  | v, [] => (v, 0)
  | v, f :: l => if (v.write f.1 f.2).2 ≠ 0 then v.write f.1 f.2 else writeAll (v.write f.1 f.2).1 l
def V.thn (r : V × Int) (f : V → V × Int) : V × Int := if r.2 ≠ 0 then r else f r.1
def writeM (v : V) (l : List Fl) : V × Int := V.thn (V.thn (V.thn (writeAll v l) V.flush) (awayM · mk)) (awayM · jn)
def commitM (v : V) (l : List Fl) : V × Int :=
  if mayM l ≠ 0 then (v, mayM l) else if fitsM v l (bytesM l) ≠ 0 then (v, fitsM v l (bytesM l))
  else V.thn (V.thn (putM v jn (bytesM l)) (putM · mk [])) (writeM · l)
def recoverM (v : V) : V × Int :=
  if v.dead then (v, 15) else
    match v.now.get mk, v.now.get jn with
    | none, none => (v, 0)
    | none, some _ => awayM v jn
    | some _, none => (v, 10)
    | some _, some b => if (readM b).2 ≠ 0 then (v, (readM b).2) else writeM v (readM b).1
theorem textB_small {s : Str} (h : s.length ≤ 65535) : textB s = le s.length 2 ++ s := by
  unfold textB
  rw [Nat.min_eq_left h, List.take_of_length_le h]
theorem mayGo_zero : ∀ {l : List Fl} {seen : List Str}, mayGo seen l = 0 → ∀ f ∈ l, nameBad f.1 = false ∧ f.2.length ≤ 8000
  | [], _, _, f, hf => by cases hf
  | (n, b) :: l, seen, h, f, hf => by
    unfold mayGo at h
    split at h
    · cases h
    · rename_i h1
      split at h
      · cases h
      · split at h
        · cases h
        · rename_i h3
          rcases List.mem_cons.1 hf with rfl | hf
          · exact ⟨by simpa using h1, Nat.le_of_not_lt h3⟩
          · exact mayGo_zero h f hf
theorem mayM_zero {l : List Fl} (h : mayM l = 0) : 1 ≤ l.length ∧ l.length ≤ 8 ∧ mayGo [] l = 0 := by
  unfold mayM at h
  split at h
  · cases h
  · exact ⟨by omega, by omega, h⟩
theorem mayGo_nodup : ∀ {l : List Fl} {seen : List Str}, mayGo seen l = 0 → (l.map (·.1)).Nodup ∧ ∀ f ∈ l, f.1 ∉ seen
  | [], _, _ => ⟨List.nodup_nil, fun f hf => by cases hf⟩
  | (n, b) :: l, seen, h => by
    unfold mayGo at h
    split at h
    · cases h
    · split at h
      · cases h
      · rename_i h2
        split at h
        · cases h
        · obtain ⟨h3, h4⟩ := mayGo_nodup h
          refine ⟨?_, fun f hf => ?_⟩
          · rw [List.map_cons, List.nodup_cons]
            refine ⟨fun hm => ?_, h3⟩
            obtain ⟨f, hf, e⟩ := List.mem_map.1 hm
            exact h4 f hf (by rw [e]; simp)
          · rcases List.mem_cons.1 hf with rfl | hf
            · exact h2
            · exact fun hm => h4 f hf (by simp [hm])
theorem nameBad_len {n : Str} (h : nameBad n = false) : n ≠ [] ∧ n.length ≤ 20 ∧ n ≠ jn ∧ n ≠ mk := by
  unfold nameBad at h
  have h := of_decide_eq_false h
  exact ⟨fun e => h (.inl e), Nat.le_of_not_lt fun e => h (.inr (.inl e)), fun e => h (.inr (.inr (.inl e))), fun e => h (.inr (.inr (.inr e)))⟩
theorem textB_length {s : Str} (h : s.length ≤ 65535) : (textB s).length = s.length + 2 := by
  rw [textB_small h, List.length_append, le_length]
  omega
end Go.Proofs.Ytcfbkhgdlgnmgaa
set_option linter.unusedVariables false
set_option linter.unusedSimpArgs false
namespace Go.Proofs.Ytcfbkhgdlgnmgaa
open Go.RowKit Go.ChangeShapes Go.WideShapes Go.ChangeAt
open Go.ChangeMaps (open_string shut_string)
def sv (s : ByteArray) : Value := .string s
section
variable {H : Type} {enc : TypeId × Value → H} {P : Program} {w : World} {T E : TypeId} {a : Option Addr} {len cap : Nat} {d : DataW H} {p : List MemPlace}
theorem open_bytes (hT : P.underlying T = some (.slice E)) (hE : P.underlying E = some (.int .u8)) (hC : P.cellsOf E = 1) (h : DataW.Trod enc P w 0 (fun _ => true) true T (.slice a len cap) d p) :
    ∃ bs : List UInt8, Hid (bs.length = len) ∧ Rd w a (bs.map bv) ∧ len ≤ cap ∧ cap ≤ maxLen := by
  obtain ⟨fuel, hf⟩ := h
  rcases open_ints hT hE hC hf with ⟨hcs, _⟩ | ⟨x, l, c, zs, hcs, _, hl, hm, hz, _, hcell, hwz⟩
  · simp [Value.cells] at hcs
    obtain ⟨rfl, rfl, rfl⟩ := hcs
    exact ⟨[], Lib.hid rfl, Rd.nil _ _, Nat.le_refl _, by unfold maxLen; omega⟩
  · simp [Value.cells] at hcs
    obtain ⟨rfl, rfl, rfl⟩ := hcs
    have hzl : zs.length = cap := by simpa using hz
    refine ⟨(zs.take len).map fun z => UInt8.ofNat z.toNat, Lib.hid (by simp; omega), fun j u hu => ⟨x, rfl, ?_⟩, hl, hm⟩
    rw [List.map_map, List.getElem?_map] at hu
    obtain ⟨z, hzj, rfl⟩ := Option.map_eq_some_iff.1 hu
    rw [List.getElem?_take] at hzj
    split at hzj
    · rename_i hj
      have hjl : j < zs.length := by omega
      have hw := hwz z (List.mem_of_getElem? hzj)
      have hc := hcell j hjl
      have e : zs.getD j 0 = z := by simp [List.getD, hzj]
      rw [e] at hc
      rw [hc]
      have hb : 0 ≤ z ∧ z ≤ 255 := by
        simp [Lit.wf, IntKind.min, IntKind.max, IntKind.signed, IntKind.bits] at hw
        omega
      simp only [Function.comp, bv]
      congr 2
      simp
      omega
    · cases hzj
theorem int_bounds {n : Int} (h : (Lit.int .i64 n).wf = true) : -9223372036854775808 ≤ n ∧ n ≤ 9223372036854775807 := by
  simp [Lit.wf, IntKind.min, IntKind.max, IntKind.signed, IntKind.bits] at h
  omega
end
end Go.Proofs.Ytcfbkhgdlgnmgaa
set_option linter.unusedVariables false
set_option linter.unusedSimpArgs false
namespace Go.Proofs.Ytcfbkhgdlgnmgaa
open Go.RowKit Go.ChangeShapes Go.WideShapes Go.ChangeAt Go.Deep
structure Rw where
  A : Option Addr
  n : Nat
  c : Nat
  b : List UInt8
def Rw.val (q : Rw) : Value := .slice q.A q.n q.c
structure Rw.Ok (w : World) (q : Rw) : Prop where
  len : Hid (q.b.length = q.n)
  rd : Rd w q.A (q.b.map bv)
  le : q.n ≤ q.c
  lec : q.c ≤ maxLen
instance : Inhabited Rw := ⟨⟨none, 0, 0, []⟩⟩
section
variable {H : Type} {enc : TypeId × Value → H} {P : Program} {w : World} {T E Q : TypeId} {a : Option Addr} {len cap : Nat} {d : DataW H} {p : List MemPlace}
theorem open_bytes_cell {fuel : Nat} {v : Value} {x : DataW H × List MemPlace} (hE : P.underlying E = some (.slice Q)) (hQ : P.underlying Q = some (.int .u8)) (cQ : P.cellsOf Q = 1)
    (h : DataW.trod enc P w 0 (fun _ => true) true fuel E [v] = some x) : ∃ q : Rw, v = q.val ∧ q.Ok w := by
  have key : ∀ (A : Option Addr) (n c : Nat), v = .slice A n c → ∃ q : Rw, v = q.val ∧ q.Ok w := fun A n c e => by
    subst e
    obtain ⟨bs, h1, h2, h3, h4⟩ := open_bytes (d := x.1) (p := x.2) hE hQ cQ ⟨fuel, by simpa [Value.cells] using h⟩
    exact ⟨⟨A, n, c, bs⟩, rfl, h1, h2, h3, h4⟩
  rcases open_slice hE h with ⟨hcs, _⟩ | ⟨a, l, c, m, k, D, Pl, hcs, _⟩
  · exact key none 0 0 (by simpa using hcs)
  · exact key _ _ _ (by simpa using hcs)
end
end Go.Proofs.Ytcfbkhgdlgnmgaa
set_option linter.unusedVariables false
set_option linter.unusedSimpArgs false
namespace Go.Proofs.Ytcfbkhgdlgnmgaa
open Go.RowKit Go.Maps Go.Sort
structure Tr (X : Nat → Prop) (w w' : World) : Prop where
  os : w'.os = w.os
  tape : w'.tape = w.tape
  output : w'.output = w.output
  size : w.heap.size ≤ w'.heap.size
  block : ∀ i, i < w.heap.size → ¬ X i → w'.heap[i]? = w.heap[i]?
section
variable {X Y Z : Nat → Prop} {w w' w'' : World}
theorem Tr.rfl' (X : Nat → Prop) (w : World) : Tr X w w := ⟨rfl, rfl, rfl, Nat.le_refl _, fun _ _ _ => rfl⟩
theorem Tr.of_grown {row : Option Nat} (h : w.grownBy w' row) (hr : ∀ g, row = some g → X g) : Tr X w w' := ⟨h.os, h.tape, h.output, h.size, fun i hi hX => h.block i hi (fun e => hX (hr i e.symm))⟩
theorem Tr.of_gr (h : Gr w w') : Tr X w w' := ⟨h.os, h.tape, h.output, h.size, fun i hi _ => h.block i hi⟩
theorem Tr.trans (h : Tr X w w') (k : Tr Y w' w'') (hY : ∀ i, i < w.heap.size → Y i → X i) : Tr X w w'' :=
  ⟨k.os.trans h.os, k.tape.trans h.tape, k.output.trans h.output, Nat.le_trans h.size k.size, fun i hi hX => (k.block i (Nat.lt_of_lt_of_le hi h.size) (fun hy => hX (hY i hi hy))).trans (h.block i hi hX)⟩
theorem Tr.mono (h : Tr X w w') (hY : ∀ i, i < w.heap.size → X i → Y i) : Tr Y w w' := ⟨h.os, h.tape, h.output, h.size, fun i hi hX => h.block i hi (fun hx => hX (hY i hi hx))⟩
theorem Tr.below {B : Nat} (h : Tr X w w') (hB : B ≤ w.heap.size) (hX : ∀ i, X i → B ≤ i) : Below B w w' :=
  ⟨h.os, h.tape, h.output, h.size, fun i hi => h.block i (by omega) (fun hx => by have := hX i hx; omega)⟩
theorem Tr.row {g : Nat} {t : TypeId} {xs : List Value} (h : Tr X w w') (hr : Row w g t xs) (hX : ¬ X g) : Row w' g t xs := (h.block g hr.lt hX).trans hr
theorem Tr.rd {A : Option Addr} {xs : List Value} (h : Tr X w w') (hr : Rd w A xs) (hX : ∀ ad, A = some ad → ¬ X ad.block) : Rd w' A xs := fun j u hu => by
  obtain ⟨ad, e, hc⟩ := hr j u hu
  refine ⟨ad, e, ?_⟩
  have hlt := World.block_lt_of_cell? w _ hc
  unfold World.cell? at hc ⊢
  rw [h.block _ hlt (by rw [block_of_add]; exact hX ad e)]
  exact hc
end
def RdX (w : World) (X : Nat → Prop) (A : Option Addr) (xs : List Value) : Prop :=
  ∀ j u, xs[j]? = some u → ∃ ad cs f, A = some ad ∧ w.cell? (ad.add j) = some u ∧ X ad.block ∧ w.heap[ad.block]? = some (.cells cs 5 f)
def Cont (w : World) (X : Nat → Prop) (v : Value) (b : Str) : Prop := ∃ A n c, v = .slice A n c ∧ b.length = n ∧ n ≤ c ∧ c ≤ maxLen ∧ RdX w X A (b.map bv)
section
variable {X X' Y : Nat → Prop} {w w' : World} {A : Option Addr} {xs : List Value} {v : Value} {b : Str}
theorem RdX.rd (h : RdX w X A xs) : Rd w A xs := fun j u hu => by
  obtain ⟨ad, _, _, e, hc, _⟩ := h j u hu
  exact ⟨ad, e, hc⟩
theorem RdX.tr (h : RdX w X A xs) (t : Tr Y w w') (hd : ∀ i cs f, Y i → X i → w.heap[i]? = some (.cells cs 5 f) → False) (hX : ∀ i, X i → X' i) : RdX w' X' A xs := fun j u hu => by
  obtain ⟨ad, cs, f, e, hc, hx, hh⟩ := h j u hu
  have hY : ¬ Y ad.block := fun hy => hd _ _ _ hy hx hh
  have hlt : ad.block < w.heap.size := (Array.getElem?_eq_some_iff.1 hh).1
  have hb := t.block _ hlt hY
  refine ⟨ad, cs, f, e, ?_, hX _ hx, hb.trans hh⟩
  unfold World.cell? at hc ⊢
  rw [block_of_add] at hc ⊢
  rw [hb]
  exact hc
theorem Cont.tr (h : Cont w X v b) (t : Tr Y w w') (hd : ∀ i cs f, Y i → X i → w.heap[i]? = some (.cells cs 5 f) → False) (hX : ∀ i, X i → X' i) : Cont w' X' v b := by
  obtain ⟨A, n, c, e, h1, h2, h3, h4⟩ := h
  exact ⟨A, n, c, e, h1, h2, h3, h4.tr t hd hX⟩
theorem Cont.nil (w : World) (X : Nat → Prop) : Cont w X (.slice none 0 0) [] := ⟨none, 0, 0, rfl, rfl, Nat.le_refl _, by unfold maxLen; omega, fun j u h => by simp at h⟩
theorem Cont.half {n c : Nat} (h : Cont w X (.slice A n c) b) : Cont w X (.slice A (n / 2) c) (b.take (b.length / 2)) := by
  obtain ⟨A', n', c', e, h1, h2, h3, h4⟩ := h
  injection e with e1 e2 e3
  subst e1 e2 e3
  refine ⟨A, n / 2, c, rfl, by rw [List.length_take, h1]; omega, by omega, h3, fun j u hu => ?_⟩
  rw [List.map_take, List.getElem?_take] at hu
  split at hu
  · exact h4 j u hu
  · cases hu
theorem Cont.of_own {B n c : Nat} (h : Own w B 5 1 A n c (b.map bv)) (hX : ∀ g, blkOf A = some g → X g) : Cont w X (.slice A n c) b := by
  have hl := h.1
  rw [List.length_map, Nat.mul_one] at hl
  refine ⟨A, n, c, rfl, hl, h.le.1, h.le.2, fun j u hu => ?_⟩
  rcases h.2 with ⟨_, rfl, _⟩ | ⟨g, rest, rfl, hb, hr, _⟩
  · have : b = [] := List.eq_nil_of_length_eq_zero hl
    subst this
    simp at hu
  · refine ⟨⟨g, 0, none⟩, _, _, rfl, ?_, hX g rfl, hr⟩
    rw [add_plain, hr.cell]
    have hlt := (List.getElem?_eq_some_iff.1 hu).1
    rw [List.getElem?_append_left hlt]
    exact hu
end
def R1 : Value → Option (DataW Value × List MemPlace)
  | .slice A n c => some (.held (.slice A n c), [])
  | _ => none
theorem R1_inv {v : Value} {y : DataW Value × List MemPlace} (h : R1 v = some y) : ∃ q : Option Addr × Nat × Nat, v = .slice q.1 q.2.1 q.2.2 ∧ y = (.held v, []) := by
  unfold R1 at h
  split at h
  · injection h with h; exact ⟨(_, _, _), rfl, h.symm⟩
  · cases h
abbrev ZF := Value × (Str × Str)
def zent (q : ZF) : Lit × DataW Value := (.string q.2.1, .held q.1)
def FilesAt (w : World) (X : Nat → Prop) (b : Nat) (l : Files) : Prop :=
  ∃ z : List ZF, z.map (·.2) = l ∧ (∀ q ∈ z, Cont w X q.1 q.2.2) ∧ w.ownsMap Try.prog 9 R1 b l.length (.map (z.map zent))
theorem zent_find (z : List ZF) (n : Str) (d : DataW Value) : (DataW.map (z.map zent)).atKey (.string n) d = match z.find? (fun q => q.2.1 == n) with | some q => .held q.1 | none => d := by
  unfold DataW.atKey
  simp only [List.find?_map]
  have : ((fun p : Lit × DataW Value => p.1.sameKey (.string n)) ∘ zent) = fun q : ZF => q.2.1 == n := rfl
  rw [this]
  cases z.find? (fun q => q.2.1 == n) <;> rfl
theorem zget (z : List ZF) (n : Str) : Files.get (z.map (·.2)) n = (z.find? (fun q => q.2.1 == n)).map (·.2.2) := by
  unfold Files.get
  rw [List.find?_map]
  have : ((fun p : Str × Str => p.1 == n) ∘ fun q : ZF => q.2) = fun q : ZF => q.2.1 == n := rfl
  rw [this]
  cases z.find? (fun q => q.2.1 == n) <;> rfl
theorem zhas (z : List ZF) (n : Str) : Maps.has (DataW.map (z.map zent)) (.string n) = (Files.get (z.map (·.2)) n).isSome := by
  show (z.map zent).any (fun p => p.1.sameKey (.string n)) = _
  rw [zget, List.any_map]
  have : ((fun p : Lit × DataW Value => p.1.sameKey (.string n)) ∘ zent) = fun q : ZF => q.2.1 == n := rfl
  rw [this, Option.isSome_map, List.isSome_find?]
theorem zput (z : List ZF) (n b : Str) (v : Value) : (DataW.map (z.map zent)).put (.string n) (.held v) = .map ((insBy (fun q : ZF => q.2.1) (v, (n, b)) (z.filter fun q => !(q.2.1 == n))).map zent) := by
  show DataW.map (DataW.insert (.string n, .held v) ((z.map zent).filter fun p => !p.1.sameKey (.string n))) = _
  have h1 : ((z.map zent).filter fun p => !p.1.sameKey (.string n)) = (z.filter fun q => !(q.2.1 == n)).map zent := by
    rw [List.filter_map]; rfl
  rw [h1]
  congr 1
  generalize (z.filter fun q => !(q.2.1 == n)) = y
  induction y with
  | nil => rfl
  | cons x r ih =>
    simp only [List.map_cons, DataW.insert, insBy]
    have hb : (Lit.string n).before (zent x).1 = bytesBefore n x.2.1 := rfl
    rw [hb]
    split
    · rfl
    · rw [ih]; rfl
theorem zput_fst (z : List ZF) (n b : Str) (v : Value) : (insBy (fun q : ZF => q.2.1) (v, (n, b)) (z.filter fun q => !(q.2.1 == n))).map (·.2) = Files.put (z.map (·.2)) n b := by
  unfold Files.put
  rw [insBy_map (fun q : ZF => q.2) (·.1) (v, (n, b)), List.filter_map]
  rfl
theorem zdel (z : List ZF) (n : Str) : (DataW.map (z.map zent)).del (.string n) = .map ((z.filter fun q => !(q.2.1 == n)).map zent) := by
  show DataW.map ((z.map zent).filter fun p => !p.1.sameKey (.string n)) = _
  rw [List.filter_map]; rfl
theorem zdel_fst (z : List ZF) (n : Str) : (z.filter fun q => !(q.2.1 == n)).map (·.2) = Files.del (z.map (·.2)) n := by
  unfold Files.del
  rw [List.filter_map]
  rfl
theorem ownsMap_tight {w : World} {b n : Nat} {es : List (Lit × DataW Value)} (h : w.ownsMap Try.prog 9 R1 b n (.map es)) : w.ownsMap Try.prog 9 R1 b es.length (.map es) := by
  obtain ⟨a, clock, hb, F, hs, hD⟩ := h
  refine ⟨a, clock, hb, F, ?_, hD⟩
  injection hD with hD
  rw [hD, length_read]
  exact Nat.le_refl _
theorem ownsMap_at {w w' : World} {b n : Nat} {D : DataW Value} (h : w.ownsMap Try.prog 9 R1 b n D) (e : w'.heap[b]? = w.heap[b]?) : w'.ownsMap Try.prog 9 R1 b n D := by
  obtain ⟨a, clock, hb, r⟩ := h
  exact ⟨a, clock, e.trans hb, r⟩
theorem keyed : Keyed Try.prog 9 := string_keyed Try.underlying9
theorem key_of {n : Str} (h : n.length ≤ maxLen) : keyOf Try.prog 9 (encStr n) = some (.string n) := by
  have := WideMaps.keyOf_string_mk (P := Try.prog) Try.underlying9 (s := ⟨n.toArray⟩) (by simpa [ByteArray.size] using h)
  simpa using this
section
variable {X X' : Nat → Prop} {w w' : World} {b : Nat} {l : Files} {n : Str}
theorem FilesAt.lt (h : FilesAt w X b l) : b < w.heap.size := by
  obtain ⟨z, _, _, h⟩ := h
  exact h.lt
theorem FilesAt.keep (h : FilesAt w X b l) (e : w'.heap[b]? = w.heap[b]?) (hk : ∀ v xs, Cont w X v xs → Cont w' X' v xs) : FilesAt w' X' b l := by
  obtain ⟨z, h1, h2, h3⟩ := h
  exact ⟨z, h1, fun q hq => hk _ _ (h2 q hq), ownsMap_at h3 e⟩
theorem FilesAt.no_row (h : FilesAt w X b l) {cs : Array Value} {t : TypeId} {f : Nat × Nat} (e : w.heap[b]? = some (.cells cs t f)) : False := by
  obtain ⟨z, _, _, a, clock, hb, _⟩ := h
  rw [hb] at e
  cases e
theorem FilesAt.made (w : World) (X : Nat → Prop) : FilesAt (w.alloc (.map #[] 0)) X w.heap.size [] := ⟨[], rfl, by simp, World.ownsMap_made w _ _ _⟩
theorem FilesAt.look (h : FilesAt w X b l) (hn : n.length ≤ maxLen) :
    ∃ A m c, Cont w X (.slice A m c) ((l.get n).getD []) ∧ ∀ w', w'.heap[b]? = w.heap[b]? → (Instr.lookup 63 (.map (some b)) (encStr n) false).run Try.prog w' = .ok (.slice A m c) w' := by
  obtain ⟨z, rfl, h2, h3⟩ := h
  have hl : ∀ w', w'.heap[b]? = w.heap[b]? → ∃ v ps, (Instr.lookup 63 (.map (some b)) (encStr n) false).run Try.prog w' = .ok v w' ∧ R1 v = some ((DataW.map (z.map zent)).atKey (.string n) (.held (.slice none 0 0)), ps) := fun w' e =>
    (ownsMap_at h3 e).lookup keyed Try.underlying63 (Try.zeroValue29 w') rfl (key_of hn)
  rw [zent_find] at hl
  rw [zget]
  cases hf : z.find? (fun q => q.2.1 == n) with
  | none =>
    rw [hf] at hl
    refine ⟨none, 0, 0, Cont.nil _ _, fun w' e => ?_⟩
    obtain ⟨v, ps, hr, hR⟩ := hl w' e
    obtain ⟨q, rfl, e2⟩ := R1_inv hR
    simp only [Prod.mk.injEq, DataW.held.injEq] at e2
    replace e2 := e2.1
    exact hr.trans (congrArg (fun u => Result.ok u w') e2.symm)
  | some q =>
    rw [hf] at hl
    have hq := h2 q (List.mem_of_find?_eq_some hf)
    obtain ⟨A, m, c, e0, _⟩ := id hq
    refine ⟨A, m, c, e0 ▸ hq, fun w' e => ?_⟩
    obtain ⟨v, ps, hr, hR⟩ := hl w' e
    obtain ⟨q', rfl, e2⟩ := R1_inv hR
    simp only [Prod.mk.injEq, DataW.held.injEq] at e2
    replace e2 := e2.1
    exact hr.trans (congrArg (fun u => Result.ok u w') (e2.symm.trans e0))
theorem FilesAt.look_ok (h : FilesAt w X b l) (hn : n.length ≤ maxLen) :
    ∃ A m c, Cont w X (.slice A m c) ((l.get n).getD []) ∧ ∀ w', w'.heap[b]? = w.heap[b]? → (Instr.lookup 63 (.map (some b)) (encStr n) true).run Try.prog w' = .ok (.tuple #[.slice A m c, .bool (l.get n).isSome]) w' := by
  obtain ⟨z, rfl, h2, h3⟩ := h
  have hl : ∀ w', w'.heap[b]? = w.heap[b]? → ∃ v ps, (Instr.lookup 63 (.map (some b)) (encStr n) true).run Try.prog w' = .ok (.tuple #[v, .bool (Maps.has (.map (z.map zent)) (.string n))]) w' ∧ R1 v = some ((DataW.map (z.map zent)).atKey (.string n) (.held (.slice none 0 0)), ps) := fun w' e =>
    (ownsMap_at h3 e).look_ok keyed Try.underlying63 (Try.zeroValue29 w') rfl (key_of hn)
  rw [zent_find, zhas] at hl
  rw [zget] at hl ⊢
  cases hf : z.find? (fun q => q.2.1 == n) with
  | none =>
    rw [hf] at hl
    refine ⟨none, 0, 0, Cont.nil _ _, fun w' e => ?_⟩
    obtain ⟨v, ps, hr, hR⟩ := hl w' e
    obtain ⟨q, rfl, e2⟩ := R1_inv hR
    simp only [Prod.mk.injEq, DataW.held.injEq] at e2
    replace e2 := e2.1
    exact hr.trans (congrArg (fun u => Result.ok (Value.tuple #[u, .bool _]) w') e2.symm)
  | some q =>
    rw [hf] at hl
    have hq := h2 q (List.mem_of_find?_eq_some hf)
    obtain ⟨A, m, c, e0, _⟩ := id hq
    refine ⟨A, m, c, e0 ▸ hq, fun w' e => ?_⟩
    obtain ⟨v, ps, hr, hR⟩ := hl w' e
    obtain ⟨q', rfl, e2⟩ := R1_inv hR
    simp only [Prod.mk.injEq, DataW.held.injEq] at e2
    replace e2 := e2.1
    exact hr.trans (congrArg (fun u => Result.ok (Value.tuple #[u, .bool _]) w') (e2.symm.trans e0))
theorem FilesAt.put (h : FilesAt w X b l) {v : Value} {x : Str} (hv : Cont w X v x) {m : Nat} (hm : w'.ownsMap Try.prog 9 R1 b m ((DataW.map ((Classical.choose h).map zent)).put (.string n) (.held v)))
    (hk : ∀ v xs, Cont w X v xs → Cont w' X v xs) : FilesAt w' X b (l.put n x) := by
  have h1 := (Classical.choose_spec h).1
  have h2 := (Classical.choose_spec h).2.1
  generalize Classical.choose h = z at h1 h2 hm
  rw [zput z n x v] at hm
  have h4 := zput_fst z n x v
  rw [h1] at h4
  refine ⟨_, h4, fun q hq => ?_, ?_⟩
  · rcases mem_insBy.1 hq with rfl | hq
    · exact hk _ _ hv
    · exact hk _ _ (h2 q (List.mem_filter.1 hq).1)
  · have := ownsMap_tight hm
    rw [← h4]
    simpa using this
theorem FilesAt.drop (h : FilesAt w X b l) {m : Nat} (hm : w'.ownsMap Try.prog 9 R1 b m ((DataW.map ((Classical.choose h).map zent)).del (.string n)))
    (hk : ∀ v xs, Cont w X v xs → Cont w' X v xs) : FilesAt w' X b (l.del n) := by
  have h1 := (Classical.choose_spec h).1
  have h2 := (Classical.choose_spec h).2.1
  generalize Classical.choose h = z at h1 h2 hm
  rw [zdel z n] at hm
  have h4 := zdel_fst z n
  rw [h1] at h4
  refine ⟨_, h4, fun q hq => hk _ _ (h2 q (List.mem_filter.1 hq).1), ?_⟩
  have := ownsMap_tight hm
  rw [← h4]
  simpa using this
theorem FilesAt.owns (h : FilesAt w X b l) : w.ownsMap Try.prog 9 R1 b l.length (.map ((Classical.choose h).map zent)) := (Classical.choose_spec h).2.2
theorem FilesAt.entry (h : FilesAt w X b l) {kl : Lit} {v : Value} (hat : ∀ d, (DataW.map ((Classical.choose h).map zent)).atKey kl d = .held v) (hk : WideAt.IsKeyLit kl) : ∃ m x, kl = .string m ∧ (m, x) ∈ l ∧ Cont w X v x := by
  have h1 := (Classical.choose_spec h).1
  have h2 := (Classical.choose_spec h).2.1
  generalize Classical.choose h = z at h1 h2 hat
  have hh := Maps.has_true_of_atKey hat
  obtain ⟨p, hp, hs⟩ := List.any_eq_true.1 hh
  obtain ⟨q, hq, rfl⟩ := List.mem_map.1 hp
  have e := WideAt.sameKey_eq hs
  subst e
  have h3 := hat (.lit (.bool true))
  show ∃ m x, Lit.string q.2.1 = Lit.string m ∧ _
  have h4 : (DataW.map (z.map zent)).atKey (.string q.2.1) (.lit (.bool true)) = .held v := h3
  rw [zent_find] at h4
  cases hf : z.find? (fun r => r.2.1 == q.2.1) with
  | none => rw [hf] at h4; cases h4
  | some r =>
    rw [hf] at h4
    injection h4 with h4
    have hr := List.mem_of_find?_eq_some hf
    have e2 : r.2.1 = q.2.1 := by simpa using List.find?_some hf
    refine ⟨q.2.1, r.2.2, rfl, ?_, h4 ▸ h2 r hr⟩
    rw [← h1, ← e2]
    exact List.mem_map.2 ⟨r, hr, rfl⟩
theorem FilesAt.size (h : FilesAt w X b l) : Maps.size (DataW.map ((Classical.choose h).map zent)) = l.length := by
  have h1 := (Classical.choose_spec h).1
  show ((Classical.choose h).map zent).length = _
  rw [List.length_map, ← List.length_map (f := (·.2)), h1]
end
def chCells (q : Value × Ch) : List Value := [encStr q.2.name, q.1, .bool q.2.gone]
def SinceAt (w : World) (X : Nat → Prop) (A : Option Addr) (c : Nat) (l : List Ch) : Prop :=
  ∃ z : List (Value × Ch), z.map (·.2) = l ∧ (∀ q ∈ z, Cont w X q.1 q.2.b) ∧ Own w 0 70 3 A l.length c (z.flatMap chCells)
section
variable {X X' Y : Nat → Prop} {w w' : World} {A : Option Addr} {c : Nat} {l : List Ch}
theorem SinceAt.nil (w : World) (X : Nat → Prop) : SinceAt w X none 0 [] := ⟨[], rfl, by simp, Own.nil _ _ _ _⟩
theorem SinceAt.keep (h : SinceAt w X A c l) {row : Option Nat} (hg : w.grownBy w' row) (hne : ∀ g, blkOf A = some g → row ≠ some g) (hk : ∀ v xs, Cont w X v xs → Cont w' X' v xs) : SinceAt w' X' A c l := by
  obtain ⟨z, h1, h2, h3⟩ := h
  exact ⟨z, h1, fun q hq => hk _ _ (h2 q hq), h3.keep hg hne⟩
theorem SinceAt.tr (h : SinceAt w X A c l) (t : Tr Y w w') (hne : ∀ g, blkOf A = some g → ¬ Y g) (hk : ∀ v xs, Cont w X v xs → Cont w' X' v xs) : SinceAt w' X' A c l := by
  obtain ⟨z, h1, h2, h3⟩ := h
  refine ⟨z, h1, fun q hq => hk _ _ (h2 q hq), h3.1, ?_⟩
  rcases h3.2 with h0 | ⟨g, rest, hA, hb, hr, r⟩
  · exact .inl h0
  · exact .inr ⟨g, rest, hA, hb, t.row hr (hne g (by rw [hA]; rfl)), r⟩
theorem SinceAt.no_bytes (h : SinceAt w X A c l) {g : Nat} (hg : blkOf A = some g) {cs : Array Value} {f : Nat × Nat} (e : w.heap[g]? = some (.cells cs 5 f)) : False := by
  obtain ⟨z, h1, h2, h3⟩ := h
  rcases h3.2 with ⟨h0, _⟩ | ⟨g', rest, rfl, hb, hr, r⟩
  · rw [h0] at hg; cases hg
  · injection hg with hg
    subst hg
    unfold Row at hr
    rw [e] at hr
    injection hr with hr
    injection hr with _ hr
    cases hr
theorem flat_at (z : List (Value × Ch)) {i : Nat} {q : Value × Ch} (h : z[i]? = some q) : (z.flatMap chCells)[i * 3]? = some (encStr q.2.name) ∧ (z.flatMap chCells)[i * 3 + 1]? = some q.1 ∧ (z.flatMap chCells)[i * 3 + 2]? = some (.bool q.2.gone) := by
  induction z generalizing i with
  | nil => simp at h
  | cons x r ih =>
    cases i with
    | zero =>
      have : x = q := by simpa using h
      subst this
      exact ⟨rfl, rfl, rfl⟩
    | succ i =>
      have := ih (i := i) (by simpa using h)
      have e : ∀ k, ((x :: r).flatMap chCells)[(i + 1) * 3 + k]? = (r.flatMap chCells)[i * 3 + k]? := fun k => by
        rw [List.flatMap_cons, List.getElem?_append_right (by simp [chCells]; omega)]
        congr 1
        simp [chCells]
        omega
      exact ⟨(e 0).trans this.1, (e 1).trans this.2.1, (e 2).trans this.2.2⟩
theorem SinceAt.blk (h : SinceAt w X A c l) : ∀ g, blkOf A = some g → g < w.heap.size := by
  obtain ⟨z, h1, h2, h3⟩ := h
  exact fun g hg => (h3.blk g hg).2
theorem SinceAt.at_ (h : SinceAt w X A c l) {i : Nat} (hi : i < l.length) : ∃ g v, A = some ⟨g, 0, none⟩ ∧ Cont w X v l[i].b ∧
    w.cell? ⟨g, i * 3, none⟩ = some (encStr l[i].name) ∧ w.cell? ⟨g, i * 3 + 1, none⟩ = some v ∧ w.cell? ⟨g, i * 3 + 2, none⟩ = some (.bool l[i].gone) := by
  obtain ⟨z, rfl, h2, h3⟩ := h
  have hi' : i < z.length := by simpa using hi
  have hz : z[i]? = some z[i] := List.getElem?_eq_getElem hi'
  obtain ⟨e1, e2, e3⟩ := flat_at z hz
  have hlen : (z.flatMap chCells).length = z.length * 3 := by simpa using h3.1
  rcases h3.2 with ⟨_, h0, _⟩ | ⟨g, rest, rfl, hb, hr, r⟩
  · simp at h0
    subst h0
    simp at hi'
  · refine ⟨g, z[i].1, rfl, ?_, ?_, ?_, ?_⟩
    · simpa using h2 z[i] (List.getElem_mem hi')
    · rw [hr.cell, List.getElem?_append_left (by omega), e1]; simp
    · rw [hr.cell, List.getElem?_append_left (by omega), e2]
    · rw [hr.cell, List.getElem?_append_left (by omega), e3]; simp
end
def vfsCells (bn bk : Nat) (A : Option Addr) (c : Nat) (s : V) : List Value :=
  [.map (some bn), .map (some bk), .slice A s.since.length c, .int .i64 s.room, .int .i64 s.stop, .int .i64 s.ops, .bool s.dead]
structure Mem (w : World) (X : Nat → Prop) (p bn bk : Nat) (A : Option Addr) (c : Nat) (s : V) : Prop where
  row : Row w p 66 (vfsCells bn bk A c s)
  now : FilesAt w X bn s.now
  kept : FilesAt w X bk s.kept
  since : SinceAt w X A c s.since
  ne : bn ≠ bk
  xp : X p
  xn : X bn
  xk : X bk
  xs : ∀ g, blkOf A = some g → X g
  lt : ∀ i, X i → i < w.heap.size
def At (w : World) (X : Nat → Prop) (p : Nat) (s : V) : Prop := s.Ok ∧ ∃ bn bk A c, Mem w X p bn bk A c s
structure Mv (w : World) (X : Nat → Prop) (w' : World) (X' : Nat → Prop) : Prop where
  tr : Tr X w w'
  more : ∀ i, X i → X' i
  new : ∀ i, X' i → X i ∨ w.heap.size ≤ i
section
variable {X X' X'' Y : Nat → Prop} {w w' w'' : World} {p bn bk c : Nat} {A : Option Addr} {s : V}
theorem Mv.rfl' (w : World) (X : Nat → Prop) : Mv w X w X := ⟨Tr.rfl' _ _, fun _ h => h, fun _ h => .inl h⟩
theorem Mv.trans (h : Mv w X w' X') (k : Mv w' X' w'' X'') : Mv w X w'' X'' :=
  ⟨h.tr.trans k.tr (fun i hi hx => by
    rcases h.new i hx with h1 | h1
    · exact h1
    · omega), fun i hx => k.more i (h.more i hx), fun i hx => by
    rcases k.new i hx with h1 | h1
    · exact h.new i h1
    · have := h.tr.size
      exact .inr (by omega)⟩
theorem Mv.of_gr (h : Gr w w') (X : Nat → Prop) : Mv w X w' X := ⟨Tr.of_gr h, fun _ h => h, fun _ h => .inl h⟩
theorem Mem.frame (h : Mem w X p bn bk A c s) (t : Tr Y w w') (hd : ∀ i, Y i → X i → False) : Mem w' X p bn bk A c s := by
  have hk : ∀ v xs, Cont w X v xs → Cont w' X v xs := fun v xs hc => hc.tr t (fun i _ _ hy hx _ => hd i hy hx) (fun _ h => h)
  exact ⟨t.row h.row (fun hy => hd _ hy h.xp), h.now.keep (t.block _ h.now.lt (fun hy => hd _ hy h.xn)) hk, h.kept.keep (t.block _ h.kept.lt (fun hy => hd _ hy h.xk)) hk,
    h.since.tr t (fun g hg hy => hd _ hy (h.xs g hg)) hk, h.ne, h.xp, h.xn, h.xk, h.xs, fun i hx => Nat.lt_of_lt_of_le (h.lt i hx) t.size⟩
theorem At.frame (h : At w X p s) (t : Tr Y w w') (hd : ∀ i, Y i → X i → False) : At w' X p s := by
  obtain ⟨hok, bn, bk, A, c, h⟩ := h
  exact ⟨hok, bn, bk, A, c, h.frame t hd⟩
theorem At.gr (h : At w X p s) (t : Gr w w') : At w' X p s := h.frame (Tr.of_gr (X := fun _ => False) t) (fun _ h _ => h)
theorem Mem.gr (h : Mem w X p bn bk A c s) (t : Gr w w') : Mem w' X p bn bk A c s := h.frame (Tr.of_gr (X := fun _ => False) t) (fun _ h _ => h)
theorem Mem.no_bytes_p (h : Mem w X p bn bk A c s) {cs : Array Value} {f : Nat × Nat} (e : w.heap[p]? = some (.cells cs 5 f)) : False := by
  have hr := h.row
  unfold Row at hr
  rw [e] at hr
  injection hr with hr
  injection hr with _ hr
  cases hr
theorem Mem.p_ne_now (h : Mem w X p bn bk A c s) : p ≠ bn := fun e => h.now.no_row (e ▸ h.row)
theorem Mem.p_ne_kept (h : Mem w X p bn bk A c s) : p ≠ bk := fun e => h.kept.no_row (e ▸ h.row)
theorem Mem.since_row (h : Mem w X p bn bk A c s) {g : Nat} (hg : blkOf A = some g) : ∃ xs, Row w g 70 xs := by
  obtain ⟨z, h1, h2, h3⟩ := h.since
  rcases h3.2 with ⟨h0, _⟩ | ⟨g', rest, rfl, hb, hr, r⟩
  · rw [h0] at hg; cases hg
  · injection hg with hg
    subst hg
    exact ⟨_, hr⟩
theorem Mem.p_ne_since (h : Mem w X p bn bk A c s) {g : Nat} (hg : blkOf A = some g) : p ≠ g := by
  obtain ⟨xs, hr⟩ := h.since_row hg
  exact h.row.ne hr (by decide)
theorem Mem.now_ne_since (h : Mem w X p bn bk A c s) {g : Nat} (hg : blkOf A = some g) : bn ≠ g := by
  obtain ⟨xs, hr⟩ := h.since_row hg
  exact fun e => h.now.no_row (e ▸ hr)
theorem Mem.kept_ne_since (h : Mem w X p bn bk A c s) {g : Nat} (hg : blkOf A = some g) : bk ≠ g := by
  obtain ⟨xs, hr⟩ := h.since_row hg
  exact fun e => h.kept.no_row (e ▸ hr)
theorem Mem.own_cells (h : Mem w X p bn bk A c s) {s' : V} (hr : Row w' p 66 (vfsCells bn bk A c s')) (hg : w.grownBy w' (some p)) (h1 : s'.now = s.now) (h2 : s'.kept = s.kept) (h3 : s'.since = s.since) : Mem w' X p bn bk A c s' := by
  have hk : ∀ v xs, Cont w X v xs → Cont w' X v xs := fun v xs hc => hc.tr (Tr.of_grown (X := fun i => i = p) hg (fun g e => by injection e with e; exact e.symm)) (fun i _ _ hy _ e => h.no_bytes_p (hy ▸ e)) (fun _ h => h)
  refine ⟨hr, h1 ▸ h.now.keep (hg.block _ h.now.lt ?_) hk, h2 ▸ h.kept.keep (hg.block _ h.kept.lt ?_) hk, h3 ▸ h.since.keep hg ?_ hk, h.ne, h.xp, h.xn, h.xk, h.xs, fun i hx => Nat.lt_of_lt_of_le (h.lt i hx) hg.size⟩
  · intro e; injection e with e; exact h.p_ne_now e.symm
  · intro e; injection e with e; exact h.p_ne_kept e.symm
  · intro g hg2 e; injection e with e; exact h.p_ne_since hg2 e
theorem Mem.contOf (h : Mem w X p bn bk A c s) {row : Option Nat} (hg : w.grownBy w' row) (hr : ∀ g, row = some g → g = p ∨ g = bn ∨ g = bk ∨ blkOf A = some g) : ∀ v xs, Cont w X v xs → Cont w' X v xs := fun v xs hc =>
  hc.tr (Tr.of_grown (X := fun i => row = some i) hg (fun g e => e)) (fun i _ _ hy _ e => by
    rcases hr i hy with rfl | rfl | rfl | h1
    · exact h.no_bytes_p e
    · exact h.now.no_row e
    · exact h.kept.no_row e
    · exact h.since.no_bytes h1 e) (fun _ h => h)
theorem Mem.now_turned (h : Mem w X p bn bk A c s) {l : Files} (hf : FilesAt w' X bn l) (hg : w.grownBy w' (some bn)) : Mem w' X p bn bk A c { s with now := l } := by
  have hk := h.contOf hg (fun g e => by injection e with e; exact .inr (.inl e.symm))
  refine ⟨(hg.block _ h.row.lt ?_).trans h.row, hf, h.kept.keep (hg.block _ h.kept.lt ?_) hk, h.since.keep hg ?_ hk, h.ne, h.xp, h.xn, h.xk, h.xs, fun i hx => Nat.lt_of_lt_of_le (h.lt i hx) hg.size⟩
  · intro e; injection e with e; exact h.p_ne_now e
  · intro e; injection e with e; exact h.ne e.symm
  · intro g hg2 e; injection e with e; exact h.now_ne_since hg2 e
theorem Mem.more (h : Mem w X p bn bk A c s) (hX : ∀ i, X i → X' i) (hl : ∀ i, X' i → i < w.heap.size) : Mem w X' p bn bk A c s := by
  have hk : ∀ v xs, Cont w X v xs → Cont w X' v xs := fun v xs hc => hc.tr (Tr.rfl' (fun _ => False) w) (fun _ _ _ hf => hf.elim) hX
  exact ⟨h.row, h.now.keep rfl hk, h.kept.keep rfl hk, h.since.keep (only_refl w none) (fun _ _ => by simp) hk, h.ne, hX _ h.xp, hX _ h.xn, hX _ h.xk, fun g hg => hX _ (h.xs g hg), hl⟩
theorem Mem.set_since (h : Mem w X p bn bk A c s) {A' : Option Addr} {c' : Nat} {l : List Ch} (hs : SinceAt w X A' c' l) (hx : ∀ g, blkOf A' = some g → X g) :
    Mem (w.setCell ⟨p, 2, none⟩ (.slice A' l.length c')) X p bn bk A' c' { s with since := l } := by
  have hg := only_set w p 2 (.slice A' l.length c')
  have hk := h.contOf hg (fun g e => by injection e with e; exact .inl e.symm)
  refine ⟨h.row.set 2 _, h.now.keep (hg.block _ h.now.lt ?_) hk, h.kept.keep (hg.block _ h.kept.lt ?_) hk, hs.keep hg ?_ hk, h.ne, h.xp, h.xn, h.xk, hx, fun i hx => Nat.lt_of_lt_of_le (h.lt i hx) hg.size⟩
  · intro e; injection e with e; exact h.p_ne_now e.symm
  · intro e; injection e with e; exact h.p_ne_kept e.symm
  · intro g hg2 e
    injection e with e
    obtain ⟨z, h1, h2, h3⟩ := hs
    rcases h3.2 with ⟨h0, _⟩ | ⟨g', rest, rfl, hb, hr, r⟩
    · rw [h0] at hg2; cases hg2
    · injection hg2 with hg2
      subst hg2
      exact h.row.ne hr (by decide) e
end
end Go.Proofs.Ytcfbkhgdlgnmgaa
set_option linter.unusedVariables false
set_option linter.unusedSimpArgs false
namespace Go.Proofs.Ytcfbkhgdlgnmgaa
open Go.RowKit Go.Maps Go.Sort Go.Shelf
theorem own_of_ownsRow {w : World} {B : Nat} {e : TypeId} {k n : Nat} {v : Value} {xs : List Value} (h : w.ownsRow B e k v n xs) : ∃ A c, v = .slice A n c ∧ Own w B e k A n c xs := by
  rcases h.2 with ⟨rfl, rfl⟩ | ⟨g, cap, cur, rfl, hb, hg, hn, hm, hs, ht⟩
  · exact ⟨none, 0, rfl, h.1, .inl ⟨rfl, rfl, rfl⟩⟩
  · refine ⟨_, cap, rfl, h.1, .inr ⟨g, cur.toList.drop (n * k), rfl, hb, ?_, hn, hm, ?_⟩⟩
    · unfold Row
      rw [← ht, List.take_append_drop]
      simpa using hg
    · rw [← ht, List.take_append_drop]
      simpa using hs
theorem Rd.plain {w : World} {A : Option Addr} {L : List Str} (h : Rd w A (L.map encStr)) (h0 : 0 < L.length) : ∃ b off, A = some ⟨b, off, none⟩ ∧ ∀ j, j < L.length → w.cell? ⟨b, off + j, none⟩ = some (encStr (L.getD j [])) := by
  obtain ⟨ad, rfl, hc⟩ := h 0 _ (List.getElem?_eq_getElem (by simpa using h0))
  have hs : ad.spot = none := by
    unfold Addr.add at hc
    simp only [if_pos] at hc
    unfold World.cell? at hc
    cases hp : ad.spot with
    | none => rfl
    | some s =>
      rw [hp] at hc
      split at hc <;> simp at hc
  obtain ⟨b, off, sp⟩ := ad
  simp only at hs
  subst hs
  refine ⟨b, off, rfl, fun j hj => ?_⟩
  obtain ⟨ad', e, hc'⟩ := h j _ (List.getElem?_eq_getElem (by simpa using hj))
  injection e with e
  subst e
  rw [add_plain' ] at hc'
  rw [hc']
  simp [List.getD_eq_getElem?_getD, List.getElem?_eq_getElem hj]
def ba (l : Str) : ByteArray := ⟨l.toArray⟩
theorem map_ba (L : List Str) : (L.map ba).map Value.string = L.map encStr := by simp [ba]
theorem getD_ba {L : List Str} {j : Nat} (h : j < L.length) : (L.map ba).getD j ByteArray.empty = ba (L.getD j []) := by
  simp [List.getD_eq_getElem?_getD, List.getElem?_map, List.getElem?_eq_getElem h]
theorem Rd.none_nil {w : World} {L : List Str} (h : Rd w none (L.map encStr)) : L = [] := by
  cases L with
  | nil => rfl
  | cons x l =>
    obtain ⟨ad, e, _⟩ := h 0 _ rfl
    cases e
theorem clone_any (A : Option Addr) (n c : Nat) (L : List Str) (w : World) (hn : Hid (L.length = n)) (hr : Rd w A (L.map encStr)) (hl : n ≤ 1000000) :
    Calls Try.prog 48 #[.slice A n c] w fun e w' => ∃ A' c', e = .returned (.slice A' n c') ∧ Own w' w.heap.size 9 1 A' n c' (L.map encStr) ∧ (A = none ∧ A' = none ∨ A ≠ none ∧ A' ≠ none) ∧ Gr w w' := by
  have hn' := hn.out
  cases A with
  | none =>
    obtain rfl := hr.none_nil
    obtain rfl : 0 = n := hn'
    exact (Try.slices_Clone_string_nil 0 c w).mono fun e w' ⟨he, hw⟩ => by
      subst hw
      exact ⟨none, 0, he, Own.nil _ _ _ _, .inl ⟨rfl, rfl⟩, Gr.rfl' _⟩
  | some ad =>
    by_cases h0 : 0 < n
    · obtain ⟨b, off, e, hc⟩ := hr.plain (by omega)
      injection e with e
      subst e
      have hc' : ∀ j, j < (L.map ba).length → w.cell? ⟨b, off + j, none⟩ = some (.string ((L.map ba).getD j ByteArray.empty)) := by
        intro j hj
        rw [List.length_map] at hj
        rw [hc j hj, getD_ba hj]
        rfl
      refine (Try.slices_Clone_string b off n c (L.map ba) w (by simp; omega) (by omega) hc').mono fun e w' ⟨v', he, hown, hnn, hbel⟩ => ?_
      rw [List.take_of_length_le (by simp; omega), map_ba] at hown
      obtain ⟨A', c', rfl, ho⟩ := own_of_ownsRow hown
      refine ⟨A', c', he, ho, .inr ⟨by simp, ?_⟩, hbel⟩
      rintro rfl
      rcases ho.2 with ⟨_, h1, _⟩ | ⟨_, _, h1, _⟩
      · omega
      · cases h1
    · obtain rfl : n = 0 := by omega
      have : L = [] := List.eq_nil_of_length_eq_zero hn'
      subst this
      refine (Try.slices_Clone_string_zero ad c w).mono fun e w' ⟨v', he, hown, hnn, hbel⟩ => ?_
      obtain ⟨A', c', rfl, ho⟩ := own_of_ownsRow hown
      refine ⟨A', c', he, ho, .inr ⟨by simp, ?_⟩, hbel⟩
      rintro rfl
      rcases ho.2 with ⟨_, _, h1⟩ | ⟨_, _, h1, _⟩
      · subst h1
        exact hnn rfl
      · cases h1
theorem sorts_any (m : Nat) : AnyZ.SortsIn Try.prog Try.sorted_ren Fence.wide m :=
  ⟨fun blk off cap ss W hH hblk hsz => callsIn_wide.2 (AnyM.slices_Sort_string Try.sort blk off cap ss W hH hblk hsz),
   fun p cap W => callsIn_wide.2 (AnyM.slices_Sort_string_none Try.sort p cap W)⟩
theorem keys_any (mb : Option Nat) (W : World) : CallsIn Fence.wide 5 Try.prog 50 #[.map mb] W fun e w' => e = .returned (.func (.func 74) #[] #[.pointer (some ⟨W.heap.size, 0, none⟩)]) ∧ w' = W.alloc (.cells #[.map mb] 63) :=
  AnyZ.keys_in Try.keys Fence.wide 5 trivial rfl mb W
set_option maxHeartbeats 1000000 in
theorem sorted_any {H : Type} (b nn : Nat) (D0 : DataW H) (R : Value → Option (DataW H × List MemPlace)) (w : World) (hown : w.ownsMap Try.prog 9 R b nn D0) (hmax : Maps.size D0 ≤ maxLen) (hbytes : Maps.size D0 * 16 ≤ 140737488355328) :
    CallsIn Fence.wide 5 Try.prog 49 #[.func (.func 74) #[] #[.pointer (some ⟨w.heap.size, 0, none⟩)]] (w.alloc (.cells #[.map (some b)] 63)) fun e w' => ∃ (v : Value) (ss : List (List UInt8)), e = .returned v ∧ ss.Perm (strKeys D0) ∧
      w'.ownsRow (w.alloc (.cells #[.map (some b)] 63)).heap.size 9 1 v ss.length ((ss.mergeSort (fun x y => decide (x ≤ y))).map encStr) ∧ (v = .slice none 0 0 ↔ ss = []) ∧ Below (w.alloc (.cells #[.map (some b)] 63)).heap.size (w.alloc (.cells #[.map (some b)] 63)) w' := by
  have hbl := hown.lt
  have hseq : SeqGives Fence.wide 2 Try.prog 74 #[.pointer (some ⟨w.heap.size, 0, none⟩)] encStr (fun ss => ss.Perm (strKeys D0)) (Maps.size D0) (w.alloc (.cells #[.map (some b)] 63)) :=
    AnyZ.keys_gives (ρ := Try.keys_ren) { Try.keys with } Fence.wide _ trivial rfl (by omega) w.heap.size b nn D0 _ (by simp) (by simp) (by
      obtain ⟨es, clock, hb, Ft, hs, hD⟩ := hown
      exact ⟨es, clock, (Below.heap_alloc _ _ b hbl).trans hb, Ft, hs, hD⟩)
  exact AnyZ.sorted_in Try.sorted Fence.wide 5 trivial trivial trivial trivial rfl (by omega) (sorts_any _) (enters_of Try.func73 (by kernel_rfl) rfl) 74 #[.pointer (some ⟨w.heap.size, 0, none⟩)] trivial (enters_of Try.func74 (by kernel_rfl) rfl) _ _ hmax hbytes _ hseq
theorem info_u8 : (Try.prog.info? 5).map (fun i => (i.zero, i.size, i.bytes)) = some (some (.int .u8 0), 1, 1) := by kernel_rfl
theorem cloneB_any (A : Option Addr) (n c : Nat) (b : Str) (w : World) (hn : b.length = n) (hr : Rd w A (b.map bv)) (hl : n ≤ 100000000) :
    Calls Try.prog 36 #[.slice A n c] w fun e w' => ∃ A' c', e = .returned (.slice A' n c') ∧ Own w' w.heap.size 5 1 A' n c' (b.map bv) ∧ Gr w w' := by
  have q : ∀ (w : World) (a : Option Addr) (n c n' c' : Nat), (binOp .eql 29 (.slice a n c) (.slice none n' c')).run Try.prog w = .ok (.bool a.isNone) w := fun w a n c n' c' => Lib.run_eql_slice_nil w _ _ a n c n' c' Try.underlying29
  obtain ⟨i0, hi, hz0, hz1, hz2⟩ := info_parts info_u8
  cases A with
  | none =>
    have hb : b = [] := by
      cases b with
      | nil => rfl
      | cons x r =>
        obtain ⟨ad, e, _⟩ := hr 0 _ rfl
        cases e
    subst hb
    obtain rfl : 0 = n := hn
    go_enter Try.func36, Try.ntmps36
    go_wp2
    go_ret
    exact ⟨none, 0, rfl, Own.nil _ _ _ _, Gr.rfl' _⟩
  | some ad =>
    have ho := Lib.hid (Own.empty w 5 1)
    have hr2 := hr.gr (Gr.alloc1 w (.cells #[] 5))
    go_enter Try.func36, Try.ntmps36
    go_wp2_with (at_builtin; with_reducible refine wpList_append (o := ⟨some 7, _, _, _, _, _⟩) _ rfl _ _ 29 rfl w.heap.size 5 i0 _ 1 1 Try.underlying29 hi hz0 hz1 hz2 rfl (by omega) _ 0 0 [] rfl ho.out _ n _ (b.map bv) rfl (by simpa using hn) hr2 (bv_one b) (by omega) (by unfold maxLen; omega) (by simp) ?_; intro A' c' w' ho' hk)
    go_ret
    refine ⟨A', c', by simp, by simpa using ho', (Gr.alloc1 w (.cells #[] 5)).trans (hk.below (fun g hg => by injection hg with hg; rw [← hg]; exact Nat.le_refl _) (by simp))⟩
theorem cloneM_any {X : Nat → Prop} {b : Nat} {l : Files} (w : World) (h : FilesAt w X b l) :
    Calls Try.prog 38 #[.map (some b)] w fun e w' => e = .returned (.map (some w.heap.size)) ∧ FilesAt w' X w.heap.size l ∧ Gr w w' := by
  refine (AnyW.maps_Clone_owns Try.cloneM 9 R1 b l.length _ w h.owns).mono fun e w' ⟨he, h1, h2, h3⟩ => ?_
  have e1 := (Classical.choose_spec h).1
  have e2 := (Classical.choose_spec h).2.1
  exact ⟨he, ⟨_, e1, fun q hq => (e2 q hq).tr (Tr.of_gr (X := fun _ => False) h3) (fun _ _ _ hf => hf.elim) (fun _ h => h), h1⟩, h3⟩
theorem bb_lt : ∀ a b : Str, bytesBefore a b = true → a < b
  | [], [], h => by cases h
  | [], _ :: _, _ => by simp
  | _ :: _, [], h => by cases h
  | a :: r, b :: s, h => by
    simp only [bytesBefore, Bool.or_eq_true, decide_eq_true_eq, Bool.and_eq_true, beq_iff_eq] at h
    rw [List.cons_lt_cons_iff]
    rcases h with h | ⟨rfl, h⟩
    · exact .inl h
    · exact .inr ⟨rfl, bb_lt r s h⟩
theorem names_sorted {l : Files} (h : l.Rising) : (l.map (·.1)).mergeSort leB = l.map (·.1) := by
  refine List.mergeSort_of_pairwise ?_
  rw [List.pairwise_map]
  refine List.Pairwise.imp (fun {a b} hab => ?_) h
  simp only [leB, decide_eq_true_eq]
  exact List.le_of_lt (bb_lt _ _ hab)
theorem zkeys (z : List ZF) : strKeys (DataW.map (z.map zent)) = (z.map (·.2)).map (·.1) := by
  simp [strKeys, zent, strOf, List.map_map, Function.comp_def]
set_option maxHeartbeats 1000000 in
theorem names_core {X : Nat → Prop} {p b : Nat} {l : Files} (w : World) (h : FilesAt w X b l) (hl : l.Rising) (hs : l.length ≤ 1000000) (hc : w.cell? ⟨p, 0, none⟩ = some (.map (some b))) :
    Calls Try.prog 23 #[.pointer (some ⟨p, 0, none⟩)] w fun e w' => ∃ A n c, e = .returned (.slice A n c) ∧ n = l.length ∧ Own w' w.heap.size 9 1 A n c ((l.map (·.1)).map encStr) ∧ Gr w w' := by
  have e1 := (Classical.choose_spec h).1
  have ho := h.owns
  have hsz := h.size
  have hk : strKeys (DataW.map ((Classical.choose h).map zent)) = l.map (·.1) := by
    exact (zkeys _).trans (congrArg (List.map (·.1)) e1)
  refine (callsIn_wide (n := 6)).1 ?_
  have hfK : Fence.wide.fn 50 := trivial
  have hfS : Fence.wide.fn 49 := trivial
  have hfC : Fence.wide.fn 48 := trivial
  refine callsIn_of_wp Try.func23 rfl trivial ?_ rfl
  simp only [Try.ntmps23, List.size_toArray, List.length_cons, List.length_nil, Nat.reduceAdd, Nat.reduceSub, Array.replicate_succ, Array.replicate_zero, List.push_toArray, List.append_toArray, List.nil_append, List.cons_append]
  gi_wp2_with (first
    | (gi_at_call 50; refine (keys_any _ _).mono ?_; rintro e w' ⟨rfl, rfl⟩)
    | (gi_at_call 49; (refine (sorted_any b _ _ R1 w ho (by unfold maxLen; omega) (by omega)).mono ?_; rintro e w' ⟨v, ss, rfl, hS, hrow, hnil, hb⟩; obtain ⟨A1, c1, rfl, ho1⟩ := own_of_ownsRow hrow; have hC := Lib.hid (clone_any A1 ss.length c1 _ w' (Lib.hid (by simp)) ho1.rd (by have := hS.length_eq; rw [hk, List.length_map] at this; omega))))
    | (gi_at_call 48; refine ((callsIn_wide (n := 5)).2 hC.out).mono ?_; rintro e w2 ⟨A2, c2, rfl, ho2, _, hg2⟩))
  go_ret
  have hG : Gr w w' := ((Below.refl _ w).alloc (Nat.le_refl _) _).trans (hb.mono (by simp))
  have hp : ss.mergeSort leB = l.map (·.1) := by
    rw [hk] at hS
    rw [mergeSort_of_perm hS, names_sorted hl]
  have hlen : ss.length = l.length := by have := hS.length_eq; rw [hk, List.length_map] at this; exact this
  refine ⟨A2, ss.length, c2, rfl, hlen, ?_, hG.trans' hg2⟩
  have := hp ▸ ho2
  exact this.more (fun g hg => Nat.le_trans hG.size (ho2.blk g hg).1)
end Go.Proofs.Ytcfbkhgdlgnmgaa
set_option linter.unusedVariables false
set_option linter.unusedSimpArgs false
namespace Go.Proofs.Ytcfbkhgdlgnmgaa
open Go.RowKit Go.Maps Go.Sort
structure Sm (s : V) : Prop where
  ops : s.ops ≤ 1000000
  stop : s.stop ≤ 1000000
section
variable {X : Nat → Prop} {w w' : World} {p bn bk c : Nat} {A : Option Addr} {s : V}
theorem Mem.cells (h : Mem w X p bn bk A c s) : w.cell? ⟨p, 0, none⟩ = some (.map (some bn)) ∧ w.cell? ⟨p, 1, none⟩ = some (.map (some bk)) ∧ w.cell? ⟨p, 2, none⟩ = some (.slice A s.since.length c) ∧
    w.cell? ⟨p, 3, none⟩ = some (.int .i64 s.room) ∧ w.cell? ⟨p, 4, none⟩ = some (.int .i64 s.stop) ∧ w.cell? ⟨p, 5, none⟩ = some (.int .i64 s.ops) ∧ w.cell? ⟨p, 6, none⟩ = some (.bool s.dead) :=
  ⟨h.row.cell 0, h.row.cell 1, h.row.cell 2, h.row.cell 3, h.row.cell 4, h.row.cell 5, h.row.cell 6⟩
theorem Mem.frozen (h : Mem w X p bn bk A c s) (i : Nat) : w.frozen? ⟨p, i, none⟩ = false := h.row.frozen i
set_option maxHeartbeats 1000000 in
theorem step_any (h : Mem w X p bn bk A c s) (hs : Sm s) :
    Calls Try.prog 37 #[.pointer (some ⟨p, 0, none⟩)] w fun e w' => e = .returned (.bool s.step.dead) ∧ Mem w' X p bn bk A c s.step ∧ w.grownBy w' (some p) := by
  obtain ⟨c0, c1, c2, c3, c4, c5, c6⟩ := h.cells
  have f4 := h.frozen 4
  have f5 := h.frozen 5
  have f6 := h.frozen 6
  have ho := hs.ops
  have hp := hs.stop
  by_cases hz : s.stop = 0
  · have hz' : ¬ (0 : Int) < (s.stop : Int) := by omega
    go_enter Try.func37, Try.ntmps37
    go_wp2
    go_ret
    have hg := only_set w p 5 (.int .i64 ((s.ops : Int) + 1))
    refine ⟨by simp [V.step, hz], h.own_cells ?_ hg rfl rfl rfl, hg⟩
    have hr := h.row.set 5 (.int .i64 ((s.ops : Int) + 1))
    simpa [vfsCells, V.step, hz] using hr
  · have hz' : (0 : Int) < (s.stop : Int) := by omega
    have key : ∀ (d : Bool), d = decide (s.stop = 1) → w.grownBy (((w.setCell ⟨p, 5, none⟩ (.int .i64 ((s.ops : Int) + 1))).setCell ⟨p, 4, none⟩ (.int .i64 ((s.stop : Int) - 1))).setCell ⟨p, 6, none⟩ (.bool d)) (some p) ∧
        Mem (((w.setCell ⟨p, 5, none⟩ (.int .i64 ((s.ops : Int) + 1))).setCell ⟨p, 4, none⟩ (.int .i64 ((s.stop : Int) - 1))).setCell ⟨p, 6, none⟩ (.bool d)) X p bn bk A c s.step := fun d hd => by
      have hg := only_trans (only_trans (only_set w p 5 (.int .i64 ((s.ops : Int) + 1))) (only_set _ p 4 (.int .i64 ((s.stop : Int) - 1)))) (only_set _ p 6 (.bool d))
      refine ⟨hg, h.own_cells ?_ hg rfl rfl rfl⟩
      have hr := ((h.row.set 5 (.int .i64 ((s.ops : Int) + 1))).set 4 (.int .i64 ((s.stop : Int) - 1))).set 6 (.bool d)
      have e1 : ((s.stop - 1 : Nat) : Int) = (s.stop : Int) - 1 := by omega
      subst hd
      simpa [vfsCells, V.step, hz, e1] using hr
    by_cases h1 : s.stop = 1
    · have k1 := key true (by simp [h1])
      rw [h1] at c4 k1
      go_enter Try.func37, Try.ntmps37
      go_wp2
      go_ret
      exact ⟨by simp [V.step, h1], k1.2, k1.1⟩
    · have k1 := Lib.hid (key false (by simp [h1]))
      have h1' : ((s.stop : Int) - 1 == 0) = false := by simp; omega
      go_enter Try.func37, Try.ntmps37
      go_wp2
      all_goals
        go_ret
        exact ⟨by simp [V.step, hz, h1], k1.out.2, k1.out.1⟩
def chV (v : Value) (ch : Ch) : Value := .agg #[encStr ch.name, v, .bool ch.gone]
theorem FilesAt.conts {l : Files} {b : Nat} (h : FilesAt w X b l) (hg : w.grownBy w' (some b)) : ∀ v xs, Cont w X v xs → Cont w' X v xs := fun v xs hc =>
  hc.tr (Tr.of_grown (X := fun i => i = b) hg (fun g e => by injection e with e; exact e.symm)) (fun i _ _ hy _ e => h.no_row (hy ▸ e)) (fun _ h => h)
set_option maxHeartbeats 1000000 in
theorem do_any {b : Nat} {l : Files} {ch : Ch} {v : Value} (h : FilesAt w X b l) (hv : Cont w X v ch.b) (hn : ch.name.length ≤ 20) (hl : l.length ≤ 1000000) :
    Calls Try.prog 51 #[.map (some b), chV v ch] w fun e w' => e = .returned (.tuple #[]) ∧ FilesAt w' X b (ch.act l) ∧ w.grownBy w' (some b) := by
  unfold chV
  have hk := key_of (n := ch.name) (by unfold maxLen; omega)
  have hg0 : w.grownBy (w.alloc (.cells #[encStr ch.name, v, .bool ch.gone] 70)) (some b) := World.grownBy_alloc w _ _
  have hown := Lib.hid (h.owns.alloc (.cells #[encStr ch.name, v, .bool ch.gone] 70))
  obtain ⟨A, n, c, rfl, _⟩ := id hv
  cases hgn : ch.gone with
  | true =>
    have ea : ch.act l = l.del ch.name := by simp [Ch.act, hgn]
    rw [ea]
    rw [hgn] at hg0 hown
    go_enter Try.func51, Try.ntmps51
    go_wp2_with (at_delete; refine wpList_delete_own _ rfl _ _ 63 9 rfl 29 keyed Try.underlying63 R1 b l.length _ rfl hown.out _ _ rfl hk ?_; intro w1 hown1 hturn1)
    have hg := only_trans hg0 hturn1.grown
    exact bodyPost_end (results_none rfl _ _ _) rfl ⟨rfl, h.drop hown1 (h.conts hg), hg⟩
  | false =>
    have ea : ch.act l = l.put ch.name ch.b := by simp [Ch.act, hgn]
    rw [ea]
    rw [hgn] at hg0 hown
    go_enter Try.func51, Try.ntmps51
    go_wp2_with (at_mapUpdate; refine wpList_mapUpdate_own _ rfl _ _ _ 63 rfl 9 29 keyed Try.underlying63 R1 b l.length _ rfl hown.out (by unfold maxLen; omega) _ _ _ rfl rfl hk (.held (.slice A n c)) [] rfl ?_; intro w1 hown1 hgrow1)
    have hg := only_trans hg0 hgrow1
    exact bodyPost_end (results_none rfl _ _ _) rfl ⟨rfl, h.put hv hown1 (h.conts hg), hg⟩
theorem Mem.set_kept (h : Mem w X p bn bk A c s) {b : Nat} {l : Files} (hf : FilesAt w X b l) (hne : bn ≠ b) (hx : X b) : Mem (w.setCell ⟨p, 1, none⟩ (.map (some b))) X p bn b A c { s with kept := l } := by
  have hg := only_set w p 1 (.map (some b))
  have hk := h.contOf hg (fun g e => by injection e with e; exact .inl e.symm)
  have hpb : p ≠ b := fun e => hf.no_row (e ▸ h.row)
  refine ⟨h.row.set 1 _, h.now.keep (hg.block _ h.now.lt ?_) hk, hf.keep (hg.block _ hf.lt ?_) hk, h.since.keep hg ?_ hk, hne, h.xp, h.xn, hx, h.xs, fun i hx => Nat.lt_of_lt_of_le (h.lt i hx) hg.size⟩
  · intro e; injection e with e; exact h.p_ne_now e.symm
  · intro e; injection e with e; exact hpb e.symm
  · intro g hg2 e; injection e with e; exact h.p_ne_since hg2 e
theorem Mem.cloned (h : Mem w X p bn bk A c s) {l : Files} (hg : Gr w w') (hf : FilesAt w' X w.heap.size l) :
    Mem w' (fun i => X i ∨ i = w.heap.size) p bn bk A c s ∧ FilesAt w' (fun i => X i ∨ i = w.heap.size) w.heap.size l ∧ Mv w X w' (fun i => X i ∨ i = w.heap.size) := by
  have h2 := h.gr hg
  have hlt := hf.lt
  refine ⟨h2.more (fun _ h => .inl h) (fun i hi => ?_), hf.keep rfl (fun v xs hc => hc.tr (Tr.rfl' (fun _ => False) _) (fun _ _ _ hf => hf.elim) (fun _ h => .inl h)), Tr.of_gr hg, fun _ h => .inl h, fun i hi => ?_⟩
  · rcases hi with hi | hi
    · exact h2.lt i hi
    · exact hi ▸ hlt
  · rcases hi with hi | hi
    · exact .inl hi
    · exact .inr (Nat.le_of_eq hi.symm)
theorem Mv.own_set {X X' : Nat → Prop} {w w1 : World} {p i : Nat} {u : Value} (h : Mv w X w1 X') (hp : X' p) : Mv w X (w1.setCell ⟨p, i, none⟩ u) X' :=
  h.trans ⟨Tr.of_grown (only_set w1 p i u) (fun g e => by injection e with e; exact e ▸ hp), fun _ h => h, fun _ h => .inl h⟩
end
end Go.Proofs.Ytcfbkhgdlgnmgaa
set_option linter.unusedVariables false
set_option linter.unusedSimpArgs false
namespace Go.Proofs.Ytcfbkhgdlgnmgaa.Vc
open Go.RowKit
inductive Fact where
  | is (v : Value)
  | fits (F : Nat → Value → World → Prop)
def Fact.holds : Fact → Nat → Value → World → Prop
  | .is v, _, u, _ => u = v
  | .fits F, k, u, w => F k u w
structure Frames where
  Le : World → World → Prop
  LeC : Nat → World → World → Prop
  G : Nat → World → Prop
  chain : List Nat
def Fact.stable (Φ : Frames) : Fact → Prop
  | .is _ => True
  | .fits F => (∀ k u w w', Φ.G k w → Φ.Le w w' → F k u w → F k u w') ∧ (∀ k u w w', Φ.G k w → Φ.LeC k w w' → Φ.G (k + 1) w' → F k u w → F (k + 1) u w')
abbrev Done := List (Option Nat × Fact)
def lk : Done → Nat → Option Fact
  | [], _ => none
  | (some d, f) :: r, t => if d = t then some f else lk r t
  | (none, _) :: r, t => lk r t
def factOf (done : Done) (a : Act) : Operand → Fact
  | .tmp t => match lk done t with | some f => f | none => .is (a.tmps.getD t undef)
  | .const v => .is v
  | .global g => .is (.pointer (some ⟨g, 0, none⟩))
  | .func f => .is (.func (.func f) #[] #[])
def dstOf (ops : Array Oper) (g : Nat) : Option Nat := (ops[g]?).bind (·.dst)
def guardFact (done : Done) (a : Act) (ops : Array Oper) (g : Nat) : Fact :=
  match dstOf ops g with
  | some d => factOf done a (.tmp d)
  | none => .is undef
def okUpon (P : Program) (F : Fact) (J : World → World → Prop) (k : Nat) (w : World) : Result Next → Prop
  | .ok (.value v) w' => F.holds k v w' ∧ J w w'
  | .ok .skip w' => F.holds k undef w' ∧ J w w'
  | .ok (.enter f args) w1 => Calls P f args w1 fun e w' => ∃ v, e = .returned v ∧ F.holds k v w' ∧ J w w'
  | _ => False
def factsHold (done : Done) (a : Act) (ρ : Operand → Value) (k : Nat) (w : World) : List Operand → Prop
  | [] => True
  | x :: r => (factOf done a x).holds k (ρ x) w ∧ factsHold done a ρ k w r
def bit (b : Array Nat) (i j : Nat) : Bool := (b.getD i 0).testBit j
structure Frames.I (Φ : Frames) (b : Array Nat) (i k : Nat) (w : World) : Prop where
  g : Φ.G k w
  eq : ∀ m, Φ.chain.idxOf? i = some m → k = m
  le : ∀ m c, Φ.chain[m]? = some c → bit b c i = true → k ≤ m
  lt : ∀ m c, Φ.chain[m]? = some c → bit b i c = true → m < k
  top : k ≤ Φ.chain.length
def Frames.J (Φ : Frames) (i k : Nat) : World → World → Prop := fun w w' => match Φ.chain.idxOf? i with | some _ => Φ.LeC k w w' ∧ Φ.G (k + 1) w' | none => Φ.Le w w'
def Frames.next (Φ : Frames) (i k : Nat) : Nat := match Φ.chain.idxOf? i with | some _ => k + 1 | none => k
def StepOb (P : Program) (ops : Array Oper) (a : Act) (Φ : Frames) (b : Array Nat) (i : Nat) (done : Done) (o : Oper) (F : Fact) : Prop :=
  ∀ (ρ : Operand → Value) (k : Nat) (w : World), Φ.I b i k w → factsHold done a ρ k w o.op.operands.toList →
    match o.guard with
    | none => okUpon P F (Φ.J i k) (Φ.next i k) w ((execOp ρ o).run P w)
    | some (g, want) => ∀ vg, (guardFact done a ops g).holds k vg w →
      (vg = .bool want → okUpon P F (Φ.J i k) (Φ.next i k) w ((execOp ρ o).run P w)) ∧ (vg ≠ .bool want → F.holds (Φ.next i k) undef w ∧ Φ.J i k w w)
def finish (Q : Act → Prop) (k : Nat) (w : World) : Done → Act → Prop
  | [], a => Q a
  | (none, _) :: r, a => finish Q k w r a
  | (some d, .is v) :: r, a => finish Q k w r (a.put (some d) v)
  | (some d, .fits F) :: r, a => ∀ u, F k u w → finish Q k w r (a.put (some d) u)
def Walk (P : Program) (ops : Array Oper) (a : Act) (Φ : Frames) (b : Array Nat) (Q : Act → World → Prop) : Nat → Done → List Oper → Prop
  | _, done, [] => ∀ w, Φ.G Φ.chain.length w → finish (fun a' => Q a' w) Φ.chain.length w done.reverse a
  | i, done, o :: l => ∃ F : Fact, F.stable Φ ∧ StepOb P ops a Φ b i done o F ∧ Walk P ops a Φ b Q (i + 1) ((o.dst, F) :: done) l
def tmpsOf (ops : Array Oper) (o : Oper) : List Nat :=
  (o.op.operands.toList.filterMap fun | .tmp t => some t | _ => none) ++ (match o.guard with | some (g, _) => (dstOf ops g).toList | none => [])
def okEdges (ops : Array Oper) (b : Array Nat) (i : Nat) (o : Oper) : Bool :=
  (o.after.all fun e => !Region.binds .any e || Nat.blt e.on i) &&
  ((List.range ops.size).all fun j => !bit b i j || o.after.any fun e => Region.binds .any e && (Nat.beq e.on j || bit b e.on j))
def okTmps (ops : Array Oper) (b : Array Nat) (size : Nat) (i : Nat) (o : Oper) : Bool :=
  (match o.dst with | some d => Nat.blt d size | none => true) &&
  ((List.range ops.size).all fun j => Nat.beq j i || match dstOf ops j with
    | none => true
    | some d => (match o.dst with | some d' => !Nat.beq d d' | none => true) && (!(tmpsOf ops o).contains d || bif Nat.blt j i then bit b i j else bit b j i))
def chainOk (b : Array Nat) (n : Nat) : List Nat → Bool
  | [] => true
  | [c] => Nat.blt c n
  | c :: d :: r => Nat.blt c d && bit b d c && chainOk b n (d :: r)
def okB (ops : Array Oper) (b : Array Nat) (chain : List Nat) (size : Nat) : Bool :=
  ((List.range ops.size).all fun i => match ops[i]? with
    | none => true
    | some o => okEdges ops b i o && okTmps ops b size i o) && chainOk b ops.size chain
section
variable {P : Program} {ops : Array Oper} {b : Array Nat} {chain : List Nat} {size : Nat}
theorem okB_at (h : okB ops b chain size = true) {i : Nat} {o : Oper} (hi : ops[i]? = some o) : okEdges ops b i o = true ∧ okTmps ops b size i o = true := by
  simp only [okB, Bool.and_eq_true, List.all_eq_true, List.mem_range] at h
  have h1 := h.1 i (Array.getElem?_eq_some_iff.1 hi).1
  simp only [hi, Bool.and_eq_true] at h1
  exact h1
theorem edge_lt (h : okB ops b chain size = true) {i : Nat} {o : Oper} (hi : ops[i]? = some o) {e : Edge} (he : e ∈ o.after) (hb : Region.binds .any e = true) : e.on < i := by
  have h1 := (okB_at h hi).1
  simp only [okEdges, Bool.and_eq_true] at h1
  have h2 := Array.all_eq_true_iff_forall_mem.1 h1.1 e he
  simpa [hb, Nat.blt_eq] using h2
theorem bit_edge (h : okB ops b chain size = true) {i j : Nat} {o : Oper} (hi : ops[i]? = some o) (hj : j < ops.size) (hbit : bit b i j = true) :
    ∃ e ∈ o.after, Region.binds .any e = true ∧ (e.on = j ∨ bit b e.on j = true) := by
  have h1 := (okB_at h hi).1
  simp only [okEdges, Bool.and_eq_true, List.all_eq_true, List.mem_range] at h1
  have h2 := h1.2 j hj
  simp only [hbit, Bool.not_true, Bool.false_or] at h2
  obtain ⟨e, he, h3⟩ := Array.any_eq_true'.1 h2
  simp only [Bool.and_eq_true, Bool.or_eq_true, Nat.beq_eq] at h3
  exact ⟨e, he, h3.1, h3.2⟩
def Closed (ops : Array Oper) (L : Nat → Bool) : Prop := ∀ i o, ops[i]? = some o → L i = true → ∀ e ∈ o.after, Region.binds .any e = true → L e.on = true
theorem listed_of_bit (h : okB ops b chain size = true) {L : Nat → Bool} (hc : Closed ops L) (j : Nat) (hj : j < ops.size) :
    ∀ (i : Nat) (o : Oper), ops[i]? = some o → (∀ e ∈ o.after, Region.binds .any e = true → L e.on = true) → bit b i j = true → L j = true := by
  intro i
  induction i using Nat.strongRecOn with
  | _ i ih =>
    intro o hi hall hbit
    obtain ⟨e, he, hb, h1⟩ := bit_edge h hi hj hbit
    rcases h1 with rfl | h1
    · exact hall e he hb
    · have hlt := edge_lt h hi he hb
      have hil := (Array.getElem?_eq_some_iff.1 hi).1
      have hon : ops[e.on]? = some ops[e.on] := Array.getElem?_eq_getElem (by omega)
      exact ih e.on hlt _ hon (hc e.on _ hon (hall e he hb)) h1
theorem uniq (h : okB ops b chain size = true) {i j d : Nat} (hi : dstOf ops i = some d) (hj : dstOf ops j = some d) : i = j := by
  by_cases hne : j = i
  · exact hne.symm
  · exfalso
    unfold dstOf at hi hj
    obtain ⟨o, ho, hd⟩ := Option.bind_eq_some_iff.1 hi
    have h1 := (okB_at h ho).2
    simp only [okTmps, Bool.and_eq_true, List.all_eq_true, List.mem_range] at h1
    obtain ⟨oj, hoj, hdj⟩ := Option.bind_eq_some_iff.1 hj
    have h2 := h1.2 j (Array.getElem?_eq_some_iff.1 hoj).1
    simp only [dstOf, hj, hd, Bool.or_eq_true, Nat.beq_eq, hne, false_or, Bool.and_eq_true] at h2
    have := h2.1
    simp at this
theorem dst_lt (h : okB ops b chain size = true) {i d : Nat} (hi : dstOf ops i = some d) : d < size := by
  unfold dstOf at hi
  obtain ⟨o, ho, hd⟩ := Option.bind_eq_some_iff.1 hi
  have h1 := (okB_at h ho).2
  simp only [okTmps, Bool.and_eq_true, hd, Nat.blt_eq] at h1
  exact h1.1
theorem ordered (h : okB ops b chain size = true) {i j d : Nat} {o : Oper} (hi : ops[i]? = some o) (hj : dstOf ops j = some d) (hne : j ≠ i) (hd : d ∈ tmpsOf ops o) :
    (j < i ∧ bit b i j = true) ∨ (i < j ∧ bit b j i = true) := by
  have h1 := (okB_at h hi).2
  simp only [okTmps, Bool.and_eq_true, List.all_eq_true, List.mem_range] at h1
  have hjl : j < ops.size := by
    unfold dstOf at hj
    obtain ⟨oj, hoj, _⟩ := Option.bind_eq_some_iff.1 hj
    exact (Array.getElem?_eq_some_iff.1 hoj).1
  have h2 := h1.2 j hjl
  simp only [hj, Bool.or_eq_true, Nat.beq_eq, hne, false_or, Bool.and_eq_true] at h2
  have h3 := h2.2
  have hd' : (tmpsOf ops o).contains d = true := by simpa using hd
  simp only [hd', Bool.not_true, Bool.false_eq_true, false_or] at h3
  by_cases hlt : j < i
  · have : Nat.blt j i = true := by simpa [Nat.blt_eq] using hlt
    rw [this] at h3
    exact .inl ⟨hlt, h3⟩
  · have : Nat.blt j i = false := by
      cases hb : Nat.blt j i
      · rfl
      · rw [Nat.blt_eq] at hb; exact absurd hb hlt
    rw [this] at h3
    exact .inr ⟨by omega, h3⟩
def doneOf (ops : Array Oper) (Fs : Nat → Fact) : Nat → Done
  | 0 => []
  | k + 1 => (dstOf ops k, Fs k) :: doneOf ops Fs k
theorem lk_none {Fs : Nat → Fact} {t : Nat} : ∀ k, (∀ j, j < k → dstOf ops j ≠ some t) → lk (doneOf ops Fs k) t = none
  | 0, _ => rfl
  | k + 1, h => by
    have ih := lk_none (Fs := Fs) k (fun j hj => h j (by omega))
    unfold doneOf
    cases hd : dstOf ops k with
    | none => simpa [lk] using ih
    | some d =>
      have hne : d ≠ t := fun e => h k (by omega) (by rw [hd, e])
      simpa [lk, hne] using ih
theorem lk_some (h : okB ops b chain size = true) {Fs : Nat → Fact} {t j : Nat} (hj : dstOf ops j = some t) : ∀ k, j < k → lk (doneOf ops Fs k) t = some (Fs j)
  | 0, hlt => absurd hlt (by omega)
  | k + 1, hlt => by
    unfold doneOf
    by_cases hk : k = j
    · subst hk
      simp [lk, hj]
    · have ih := lk_some h (Fs := Fs) hj k (by omega)
      cases hd : dstOf ops k with
      | none => simpa [lk] using ih
      | some d =>
        have hne : d ≠ t := fun e => hk (uniq h (by rw [hd, e]) hj)
        simpa [lk, hne] using ih
theorem walk_gives {a : Act} {Φ : Frames} {Q : Act → World → Prop} : ∀ (l : List Oper) (k : Nat) (Fs₀ : Nat → Fact), (∀ j, l[j]? = ops[k + j]?) → k + l.length = ops.size →
    Walk P ops a Φ b Q k (doneOf ops Fs₀ k) l →
    ∃ Fs : Nat → Fact, (∀ j, j < k → Fs j = Fs₀ j) ∧ (∀ i o, k ≤ i → ops[i]? = some o → (Fs i).stable Φ ∧ StepOb P ops a Φ b i (doneOf ops Fs i) o (Fs i)) ∧
      ∀ w, Φ.G Φ.chain.length w → finish (fun a' => Q a' w) Φ.chain.length w (doneOf ops Fs ops.size).reverse a
  | [], k, Fs₀, hl, hk, h => by
    refine ⟨Fs₀, fun _ _ => rfl, fun i o hi ho => ?_, ?_⟩
    · have := (Array.getElem?_eq_some_iff.1 ho).1
      simp at hk
      omega
    · have hk' : k = ops.size := by simpa using hk
      rw [← hk']
      exact h
  | o :: l, k, Fs₀, hl, hk, h => by
    have h0 : ops[k]? = some o := by simpa using (hl 0).symm
    obtain ⟨F, hst, hob, hw⟩ := h
    let Fs₁ : Nat → Fact := fun j => if j = k then F else Fs₀ j
    have hdone : ∀ m, m ≤ k → doneOf ops Fs₁ m = doneOf ops Fs₀ m := by
      intro m
      induction m with
      | zero => intro _; rfl
      | succ m ihm =>
        intro hm
        have : Fs₁ m = Fs₀ m := by simp [Fs₁, show m ≠ k by omega]
        simp only [doneOf, this, ihm (by omega)]
    have hstep : doneOf ops Fs₁ (k + 1) = (o.dst, F) :: doneOf ops Fs₀ k := by
      have : Fs₁ k = F := by simp [Fs₁]
      simp only [doneOf, this, hdone k (Nat.le_refl _), dstOf, h0, Option.bind_some]
    rw [← hstep] at hw
    obtain ⟨Fs, hsame, hall, hfin⟩ := walk_gives l (k + 1) Fs₁ (fun j => by have := hl (j + 1); simpa [Nat.add_assoc, Nat.add_comm 1 j] using this) (by simp at hk; omega) hw
    have hFk : Fs k = F := by rw [hsame k (by omega)]; simp [Fs₁]
    have hFd : ∀ m, m ≤ k → doneOf ops Fs m = doneOf ops Fs₀ m := by
      intro m
      induction m with
      | zero => intro _; rfl
      | succ m ihm =>
        intro hm
        have h1 : Fs m = Fs₀ m := by rw [hsame m (by omega)]; simp [Fs₁, show m ≠ k by omega]
        simp only [doneOf, h1, ihm (by omega)]
    refine ⟨Fs, fun j hj => ?_, fun i oi hi hoi => ?_, hfin⟩
    · rw [hsame j (by omega)]
      simp [Fs₁, show j ≠ k by omega]
    · by_cases hik : i = k
      · subst hik
        rw [h0] at hoi
        injection hoi with hoi
        subst hoi
        rw [hFk, hFd i (Nat.le_refl _)]
        exact ⟨hst, hob⟩
      · exact hall i oi (by omega) hoi
theorem count_of {p : Nat → Bool} : ∀ (c : List Nat) (k : Nat), k ≤ c.length → (∀ m (hm : m < c.length), p c[m] = decide (m < k)) → (c.filter p).length = k
  | [], k, hk, _ => by simp at hk; simp [hk]
  | x :: c, 0, _, h => by
    have h0 := h 0 (by simp)
    simp at h0
    rw [List.filter_cons, if_neg (by simp [h0])]
    exact count_of c 0 (Nat.zero_le _) fun m hm => by have := h (m + 1) (by simpa using hm); simpa using this
  | x :: c, k + 1, hk, h => by
    have h0 := h 0 (by simp)
    simp at h0
    rw [List.filter_cons, if_pos h0, List.length_cons]
    rw [count_of c k (by simpa using hk) fun m hm => by have := h (m + 1) (by simpa using hm); simpa using this]
theorem chain_facts : ∀ (c : List Nat), chainOk b ops.size c = true → (∀ m (hm : m < c.length), c[m] < ops.size) ∧ (∀ m (hm : m + 1 < c.length), bit b c[m + 1] (c[m]'(by omega)) = true) ∧ ∀ m m' (hm : m' < c.length) (hlt : m < m'), c[m]'(by omega) < c[m']
  | [], _ => ⟨fun m hm => by simp at hm, fun m hm => by simp at hm, fun m m' hm => by simp at hm⟩
  | [x], h => by
    simp only [chainOk, Nat.blt_eq] at h
    refine ⟨fun m hm => ?_, fun m hm => by simp at hm, fun m m' hm hlt => by simp at hm; omega⟩
    have : m = 0 := by simpa using hm
    subst this
    exact h
  | x :: y :: r, h => by
    simp only [chainOk, Bool.and_eq_true, Nat.blt_eq] at h
    obtain ⟨⟨hxy, hb⟩, hr⟩ := h
    obtain ⟨h1, h2, h3⟩ := chain_facts (y :: r) hr
    refine ⟨fun m hm => ?_, fun m hm => ?_, fun m m' hm hlt => ?_⟩
    · cases m with
      | zero => have := h1 0 (by simp); simp at this ⊢; omega
      | succ m => exact h1 m (by simpa using hm)
    · cases m with
      | zero => exact hb
      | succ m => exact h2 m (by simpa using hm)
    · cases m' with
      | zero => omega
      | succ m' =>
        cases m with
        | zero =>
          have hm' : m' < (y :: r).length := by simpa using hm
          by_cases h0 : m' = 0
          · subst h0; exact hxy
          · have := h3 0 m' hm' (by omega)
            simp at this ⊢
            omega
        | succ m => exact h3 m m' (by simpa using hm) (by omega)
end
end Go.Proofs.Ytcfbkhgdlgnmgaa.Vc
namespace Go.Proofs.Ytcfbkhgdlgnmgaa.Vc
open Go.RowKit
section
variable {P : Program} {ops : Array Oper} {b : Array Nat} {size : Nat}
def cnt (Φ : Frames) (listed : Array Bool) : Nat := (Φ.chain.filter fun c => listed.getD c false).length
structure Inv (ops : Array Oper) (a : Act) (Φ : Frames) (Fs : Nat → Fact) (listed : Array Bool) (a' : Act) (w : World) : Prop where
  lsize : listed.size = ops.size
  closed : Closed ops fun i => listed.getD i false
  size : a'.tmps.size = a.tmps.size
  defers : a'.defers = a.defers
  base : ∀ t, (∀ j, listed.getD j false = true → dstOf ops j ≠ some t) → a'.tmps[t]? = a.tmps[t]?
  facts : ∀ j d, listed.getD j false = true → dstOf ops j = some d → (Fs j).holds (cnt Φ listed) (a'.tmps.getD d undef) w
  stage : Φ.G (cnt Φ listed) w
theorem getD_base {a a' : Act} {t : Nat} (h : a'.tmps[t]? = a.tmps[t]?) : a'.tmps.getD t undef = a.tmps.getD t undef := by
  simp only [Array.getD_eq_getD_getElem?, h]
theorem listed_true {listed : Array Bool} {i : Nat} (h : listed.getD i true = false) : listed.getD i false = false := by
  rcases Nat.lt_or_ge i listed.size with h' | h'
  · simp [h'] at h ⊢; exact h
  · simp [Array.getElem?_eq_none h'] at h
theorem tmp_fact {a a' : Act} {w : World} {Φ : Frames} {Fs : Nat → Fact} {listed : Array Bool} {i t : Nat} {o : Oper} (h : okB ops b Φ.chain size = true) (hI : Inv ops a Φ Fs listed a' w)
    (hi : ops[i]? = some o) (hun : listed.getD i false = false) (hall : ∀ e ∈ o.after, Region.binds .any e = true → listed.getD e.on false = true) (ht : t ∈ tmpsOf ops o) :
    (factOf (doneOf ops Fs i) a (.tmp t)).holds (cnt Φ listed) (a'.tmps.getD t undef) w := by
  by_cases hw : ∃ j, dstOf ops j = some t
  · obtain ⟨j, hj⟩ := hw
    by_cases hji : j = i
    · subst hji
      have hn : lk (doneOf ops Fs j) t = none := lk_none j fun j' hj' e => by have := uniq h e hj; omega
      have hb : a'.tmps[t]? = a.tmps[t]? := hI.base t fun j' hl e => by have := uniq h e hj; subst this; rw [hun] at hl; cases hl
      simp only [factOf, hn, Fact.holds]
      exact getD_base hb
    · rcases ordered h hi hj hji ht with ⟨hlt, hbit⟩ | ⟨hlt, hbit⟩
      · have hjl : j < ops.size := by have := (Array.getElem?_eq_some_iff.1 hi).1; omega
        have hlj : listed.getD j false = true := listed_of_bit h hI.closed j hjl i o hi hall hbit
        simp only [factOf, lk_some h hj i hlt]
        exact hI.facts j t hlj hj
      · have hn : lk (doneOf ops Fs i) t = none := lk_none i fun j' hj' e => by have := uniq h e hj; omega
        have hb : a'.tmps[t]? = a.tmps[t]? := hI.base t fun j' hl e => by
          have hjj := uniq h e hj
          subst hjj
          have hil := (Array.getElem?_eq_some_iff.1 hi).1
          unfold dstOf at hj
          obtain ⟨oj, hoj, _⟩ := Option.bind_eq_some_iff.1 hj
          have := listed_of_bit h hI.closed i hil j' oj hoj (fun e he hb => hI.closed j' oj hoj hl e he hb) hbit
          rw [hun] at this
          cases this
        simp only [factOf, hn, Fact.holds]
        exact getD_base hb
  · have hno : ∀ j, dstOf ops j ≠ some t := fun j e => hw ⟨j, e⟩
    have hn : lk (doneOf ops Fs i) t = none := lk_none i fun j _ => hno j
    simp only [factOf, hn, Fact.holds]
    exact getD_base (hI.base t fun j _ => hno j)
theorem put_size (a : Act) (d : Option Tmp) (v : Value) : (a.put d v).tmps.size = a.tmps.size := by cases d <;> simp [Act.put]
theorem put_defers_same (a : Act) (d : Option Tmp) (v : Value) : (a.put d v).defers = a.defers := by cases d <;> rfl
theorem initial {p : Nat → Bool} : ∀ (c : List Nat), (∀ m (hm : m + 1 < c.length), p c[m + 1] = true → p (c[m]'(by omega)) = true) → ∀ m (hm : m < c.length), p c[m] = decide (m < (c.filter p).length)
  | [], _, m, hm => by simp at hm
  | x :: c, h, m, hm => by
    have ht : ∀ m (hm : m + 1 < c.length), p c[m + 1] = true → p (c[m]'(by omega)) = true := fun m hm hp => by
      have := h (m + 1) (by simpa using hm)
      simp only [List.getElem_cons_succ] at this
      exact this hp
    cases hx : p x with
    | true =>
      rw [List.filter_cons, if_pos hx, List.length_cons]
      cases m with
      | zero => simp [hx]
      | succ m =>
        have := initial c ht m (by simpa using hm)
        simp [this]
    | false =>
      have hall : ∀ m (hm : m < (x :: c).length), p (x :: c)[m] = false := by
        intro m
        induction m with
        | zero => intro _; simpa using hx
        | succ m ih =>
          intro hm
          cases hc : p (x :: c)[m + 1] with
          | false => rfl
          | true =>
            have h1 := h m hm hc
            have h2 := ih (by omega)
            rw [h2] at h1
            cases h1
      have hnil : (x :: c).filter p = [] := List.filter_eq_nil_iff.2 fun y hy => by
        obtain ⟨k, hk, rfl⟩ := List.getElem_of_mem hy
        rw [hall k hk]
        simp
      rw [hnil, hall m hm]
      simp
theorem stage_prefix {a a' : Act} {w : World} {Φ : Frames} {Fs : Nat → Fact} {listed : Array Bool} (h : okB ops b Φ.chain size = true) (hI : Inv ops a Φ Fs listed a' w) :
    ∀ m (hm : m < Φ.chain.length), listed.getD Φ.chain[m] false = decide (m < cnt Φ listed) := by
  have hch : chainOk b ops.size Φ.chain = true := by
    have := h
    simp only [okB, Bool.and_eq_true] at this
    exact this.2
  obtain ⟨c1, c2, c3⟩ := chain_facts Φ.chain hch
  refine initial (p := fun c => listed.getD c false) Φ.chain fun m hm hl => ?_
  have hx := c1 (m + 1) hm
  have ho : ops[Φ.chain[m + 1]]? = some ops[Φ.chain[m + 1]] := Array.getElem?_eq_getElem hx
  exact listed_of_bit h hI.closed _ (c1 m (by omega)) _ _ ho (fun e he hbd => hI.closed _ _ ho hl e he hbd) (c2 m hm)
theorem stage_at {a a' : Act} {w : World} {Φ : Frames} {Fs : Nat → Fact} {listed : Array Bool} {i : Nat} {o : Oper} (h : okB ops b Φ.chain size = true) (hI : Inv ops a Φ Fs listed a' w)
    (hi : ops[i]? = some o) (hun : listed.getD i false = false) (hall : ∀ e ∈ o.after, Region.binds .any e = true → listed.getD e.on false = true) : Φ.I b i (cnt Φ listed) w := by
  have hch : chainOk b ops.size Φ.chain = true := by
    have := h
    simp only [okB, Bool.and_eq_true] at this
    exact this.2
  obtain ⟨c1, c2, c3⟩ := chain_facts Φ.chain hch
  have hp := stage_prefix h hI
  have hle : ∀ m c, Φ.chain[m]? = some c → bit b c i = true → cnt Φ listed ≤ m := by
    intro m c hc hb
    obtain ⟨hm, rfl⟩ := List.getElem?_eq_some_iff.1 hc
    have hx := c1 m hm
    have ho : ops[Φ.chain[m]]? = some ops[Φ.chain[m]] := Array.getElem?_eq_getElem hx
    cases hl : listed.getD Φ.chain[m] false with
    | true =>
      have := listed_of_bit h hI.closed i (Array.getElem?_eq_some_iff.1 hi).1 _ _ ho (fun e he hbd => hI.closed _ _ ho hl e he hbd) hb
      exact absurd (hun.symm.trans this) (by simp)
    | false =>
      have := hp m hm
      rw [hl] at this
      simpa using this.symm
  have hlt : ∀ m c, Φ.chain[m]? = some c → bit b i c = true → m < cnt Φ listed := by
    intro m c hc hb
    obtain ⟨hm, rfl⟩ := List.getElem?_eq_some_iff.1 hc
    have h1 : listed.getD Φ.chain[m] false = true := listed_of_bit h hI.closed _ (c1 m hm) i o hi hall hb
    have := hp m hm
    rw [h1] at this
    simpa using this.symm
  refine ⟨hI.stage, fun m hk => ?_, hle, hlt, List.length_filter_le _ _⟩
  rw [List.idxOf?_eq_some_iff] at hk
  obtain ⟨hm, he, _⟩ := hk
  have hmi : Φ.chain[m] = i := by simpa using he
  have h1 : cnt Φ listed ≤ m := by
    have := hp m hm
    rw [hmi, hun] at this
    simpa using this.symm
  cases m with
  | zero => omega
  | succ m =>
    have hb := c2 m hm
    rw [hmi] at hb
    have := hlt m _ (List.getElem?_eq_getElem (by omega)) hb
    omega
theorem cnt_next {a a' : Act} {w : World} {Φ : Frames} {Fs : Nat → Fact} {listed : Array Bool} {i : Nat} {o : Oper} (h : okB ops b Φ.chain size = true) (hI : Inv ops a Φ Fs listed a' w)
    (hi : ops[i]? = some o) (hun : listed.getD i false = false) (hall : ∀ e ∈ o.after, Region.binds .any e = true → listed.getD e.on false = true) :
    cnt Φ (listed.setIfInBounds i true) = Φ.next i (cnt Φ listed) := by
  have hil : i < listed.size := by have := (Array.getElem?_eq_some_iff.1 hi).1; rw [hI.lsize]; exact this
  have hset : ∀ c, (listed.setIfInBounds i true).getD c false = (decide (c = i) || listed.getD c false) := fun c => by
    by_cases hc : i = c
    · subst hc; simp [hil]
    · rw [getD_set_ne false hc]; simp [Ne.symm hc]
  have hat := stage_at h hI hi hun hall
  have hp := stage_prefix h hI
  unfold Frames.next
  cases hk : Φ.chain.idxOf? i with
  | none =>
    have hni : i ∉ Φ.chain := by
      intro hm
      rw [List.idxOf?_eq_none_iff] at hk
      exact absurd hm (by simpa using hk)
    have hsame : (Φ.chain.filter fun c => (listed.setIfInBounds i true).getD c false) = Φ.chain.filter fun c => listed.getD c false :=
      List.filter_congr fun c hc => by
        have : c ≠ i := fun e => hni (e ▸ hc)
        rw [hset c]
        simp [this]
    unfold cnt
    rw [hsame]
  | some m =>
    have hkm := hat.eq m hk
    rw [List.idxOf?_eq_some_iff] at hk
    obtain ⟨hm, he, _⟩ := hk
    have hmi : Φ.chain[m] = i := by simpa using he
    have hch : chainOk b ops.size Φ.chain = true := by
      have := h
      simp only [okB, Bool.and_eq_true] at this
      exact this.2
    obtain ⟨c1, c2, c3⟩ := chain_facts Φ.chain hch
    simp only []
    rw [hkm] at hp ⊢
    refine count_of _ (m + 1) (by omega) fun m' hm' => ?_
    rw [hset, hp m' hm']
    by_cases h1 : m' < m
    · simp [h1, show m' < m + 1 by omega]
    · by_cases h2 : m' = m
      · subst h2; simp [hmi]
      · have h3 := c3 m m' hm' (by omega)
        rw [hmi] at h3
        have h4 : Φ.chain[m'] ≠ i := by omega
        simp [h4, show ¬ m' < m + 1 by omega]
        omega
theorem inv_next {a a' : Act} {w w1 : World} {Φ : Frames} {Fs : Nat → Fact} {listed : Array Bool} {i : Nat} {o : Oper} {v : Value} (h : okB ops b Φ.chain a.tmps.size = true)
    (hG : ∀ k w w', Φ.Le w w' → Φ.G k w → Φ.G k w') (hst : ∀ i o, ops[i]? = some o → (Fs i).stable Φ) (hI : Inv ops a Φ Fs listed a' w)
    (hi : ops[i]? = some o) (hun : listed.getD i false = false) (hall : ∀ e ∈ o.after, Region.binds .any e = true → listed.getD e.on false = true)
    (hF : (Fs i).holds (Φ.next i (cnt Φ listed)) v w1) (hJ : Φ.J i (cnt Φ listed) w w1) : Inv ops a Φ Fs (listed.setIfInBounds i true) (a'.put o.dst v) w1 := by
  have hil : i < listed.size := by have := (Array.getElem?_eq_some_iff.1 hi).1; rw [hI.lsize]; exact this
  have hcn := cnt_next h hI hi hun hall
  have hset : ∀ c, (listed.setIfInBounds i true).getD c false = true → c = i ∨ listed.getD c false = true := fun c hc => by
    by_cases hci : i = c
    · exact .inl hci.symm
    · rw [getD_set_ne false hci] at hc; exact .inr hc
  have hdi : dstOf ops i = o.dst := by simp [dstOf, hi]
  have hstage : Φ.G (cnt Φ (listed.setIfInBounds i true)) w1 := by
    rw [hcn]
    unfold Frames.J at hJ
    unfold Frames.next
    cases hk : Φ.chain.idxOf? i with
    | none => rw [hk] at hJ; exact hG _ _ _ hJ hI.stage
    | some m => rw [hk] at hJ; exact hJ.2
  have hkeep : ∀ (f : Fact) u, f.stable Φ → f.holds (cnt Φ listed) u w → f.holds (cnt Φ (listed.setIfInBounds i true)) u w1 := by
    intro f u hs hh
    cases f with
    | is v => exact hh
    | fits F =>
      rw [hcn]
      unfold Frames.J at hJ
      unfold Frames.next
      cases hk : Φ.chain.idxOf? i with
      | none => rw [hk] at hJ; exact hs.1 _ _ _ _ hI.stage hJ hh
      | some m => rw [hk] at hJ; exact hs.2 _ _ _ _ hI.stage hJ.1 hJ.2 hh
  refine ⟨by simp [hI.lsize], fun j oj hj hl e he hb => ?_, by rw [put_size]; exact hI.size, by rw [put_defers_same]; exact hI.defers, fun t ht => ?_, fun j d hl hd => ?_, hstage⟩
  · rcases hset j hl with rfl | hl
    · rw [hi] at hj
      injection hj with hj
      subst hj
      exact getD_set_true (hall e he hb)
    · exact getD_set_true (hI.closed j oj hj hl e he hb)
  · have hb := hI.base t fun j hl => ht j (getD_set_true hl)
    have hne : o.dst ≠ some t := by
      rw [← hdi]
      exact ht i (by simp [hil])
    cases hd : o.dst with
    | none => exact hb
    | some d =>
      have : d ≠ t := fun e => hne (by rw [hd, e])
      simp only [Act.put, Array.getElem?_setIfInBounds_ne this]
      exact hb
  · by_cases hji : j = i
    · subst hji
      rw [hdi] at hd
      have hlt : d < a'.tmps.size := by rw [hI.size]; exact dst_lt h (hdi.trans hd)
      simp only [hd, Act.put]
      have : (a'.tmps.setIfInBounds d v).getD d undef = v := by simp [hlt]
      rw [this, hcn]
      exact hF
    · have hl' : listed.getD j false = true := by
        rcases hset j hl with e | hl'
        · exact absurd e hji
        · exact hl'
      have hold := hI.facts j d hl' hd
      have hval : (a'.put o.dst v).tmps.getD d undef = a'.tmps.getD d undef := by
        cases hd' : o.dst with
        | none => rfl
        | some d' =>
          have : d' ≠ d := fun e => hji (uniq h hd (by rw [hdi, hd', e]))
          simp only [Act.put, Array.getD_eq_getD_getElem?, Array.getElem?_setIfInBounds_ne this]
      rw [hval]
      have hjs : ∃ oj, ops[j]? = some oj := by
        unfold dstOf at hd
        obtain ⟨oj, hoj, _⟩ := Option.bind_eq_some_iff.1 hd
        exact ⟨oj, hoj⟩
      obtain ⟨oj, hoj⟩ := hjs
      exact hkeep _ _ (hst j oj hoj) hold
theorem facts_all {a a' : Act} {w : World} {Φ : Frames} {Fs : Nat → Fact} {listed : Array Bool} {i : Nat} {o : Oper} (h : okB ops b Φ.chain size = true) (hI : Inv ops a Φ Fs listed a' w)
    (hi : ops[i]? = some o) (hun : listed.getD i false = false) (hall : ∀ e ∈ o.after, Region.binds .any e = true → listed.getD e.on false = true) :
    ∀ xs : List Operand, (∀ x ∈ xs, x ∈ o.op.operands) → factsHold (doneOf ops Fs i) a a'.eval (cnt Φ listed) w xs
  | [], _ => trivial
  | x :: r, hx => by
    refine ⟨?_, facts_all h hI hi hun hall r fun y hy => hx y (List.mem_cons_of_mem _ hy)⟩
    cases x with
    | tmp t => exact tmp_fact h hI hi hun hall (List.mem_append_left _ (List.mem_filterMap.2 ⟨.tmp t, by simpa using hx _ (List.mem_cons_self ..), rfl⟩))
    | const v => rfl
    | global g => rfl
    | func f => rfl
theorem count_set {listed : Array Bool} {i : Nat} (hi : i < listed.size) (hun : listed.getD i false = false) :
    (listed.toList.count false) = ((listed.setIfInBounds i true).toList.count false) + 1 := by
  have h0 : listed.toList[i]'(by simpa using hi) = false := by simpa [hi] using hun
  rw [Array.toList_setIfInBounds, List.count_set (by simpa using hi)]
  simp only [h0]
  have h1 : 0 < listed.toList.count false := List.count_pos_iff.2 (h0 ▸ List.getElem_mem _)
  have e1 : (false == false) = true := rfl
  have e2 : (true == false) = false := rfl
  simp only [e1, e2, if_true, Bool.false_eq_true, if_false]
  omega
theorem ready_nil {a a' : Act} {w : World} {Φ : Frames} {Fs : Nat → Fact} {listed : Array Bool} (h : okB ops b Φ.chain size = true) (hI : Inv ops a Φ Fs listed a' w)
    (hr : Region.ready .any ops listed = []) : ∀ i, i < ops.size → listed.getD i false = true := by
  intro i
  induction i using Nat.strongRecOn with
  | _ i ih =>
    intro hi
    cases hc : listed.getD i false
    · exfalso
      have hon : ops[i]? = some ops[i] := Array.getElem?_eq_getElem hi
      have hm : i ∈ Region.ready .any ops listed := mem_ready.2 ⟨by
        have hil : i < listed.size := by rw [hI.lsize]; exact hi
        simp [hil] at hc ⊢
        exact hc, _, hon, fun e he hb => ih e.on (edge_lt h hon he hb) (by have := edge_lt h hon he hb; omega)⟩
      rw [hr] at hm
      cases hm
    · rfl
theorem finish_gives {chain : List Nat} {a a' : Act} {st : Nat} {w : World} {Fs : Nat → Fact} {Q : Act → Prop} (h : okB ops b chain a.tmps.size = true)
    (hsz : a'.tmps.size = a.tmps.size) (hdf : a'.defers = a.defers) (hbase : ∀ t, (∀ j, j < ops.size → dstOf ops j ≠ some t) → a'.tmps[t]? = a.tmps[t]?)
    (hfacts : ∀ j d, j < ops.size → dstOf ops j = some d → (Fs j).holds st (a'.tmps.getD d undef) w) :
    ∀ (n k : Nat) (x : Act), k + n = ops.size → x.tmps.size = a.tmps.size → x.defers = a.defers →
      (∀ t, (∀ j, k ≤ j → j < ops.size → dstOf ops j ≠ some t) → x.tmps[t]? = a'.tmps[t]?) →
      finish Q st w ((List.range' k n).map fun j => (dstOf ops j, Fs j)) x → Q a'
  | 0, k, x, hk, hs, hd, hx, hfin => by
    have : x = a' := by
      obtain ⟨xt, xd⟩ := x
      obtain ⟨at', ad⟩ := a'
      have e1 : xt = at' := Array.ext_getElem? fun t => hx t fun j h1 h2 => by omega
      have e2 : xd = ad := by simp at hd hdf; rw [hd, hdf]
      rw [e1, e2]
    rw [← this]
    exact hfin
  | n + 1, k, x, hk, hs, hd, hx, hfin => by
    simp only [List.range'_succ, List.map_cons] at hfin
    have step : ∀ d v, dstOf ops k = some d → a'.tmps.getD d undef = v → finish Q st w ((List.range' (k + 1) n).map fun j => (dstOf ops j, Fs j)) (x.put (some d) v) → Q a' := by
      intro d v hdk hv hf
      refine finish_gives h hsz hdf hbase hfacts n (k + 1) (x.put (some d) v) (by omega) (by rw [put_size]; exact hs) (by rw [put_defers_same]; exact hd) (fun t ht => ?_) hf
      by_cases htd : d = t
      · subst htd
        have hlt : d < x.tmps.size := by rw [hs]; exact dst_lt h hdk
        have hlt' : d < a'.tmps.size := by rw [hsz]; exact dst_lt h hdk
        simp only [Act.put]
        rw [Array.getElem?_setIfInBounds_self_of_lt hlt, ← hv]
        simp [hlt']
      · simp only [Act.put, Array.getElem?_setIfInBounds_ne htd]
        exact hx t fun j h1 h2 => by
          by_cases hjk : j = k
          · subst hjk; rw [hdk]; intro e; injection e with e; exact htd e
          · exact ht j (by omega) h2
    cases hdk : dstOf ops k with
    | none =>
      rw [hdk] at hfin
      simp only [finish] at hfin
      refine finish_gives h hsz hdf hbase hfacts n (k + 1) x (by omega) hs hd (fun t ht => hx t fun j h1 h2 => ?_) hfin
      by_cases hjk : j = k
      · subst hjk; rw [hdk]; intro e; cases e
      · exact ht j (by omega) h2
    | some d =>
      rw [hdk] at hfin
      have hf := hfacts k d (by omega) hdk
      cases hF : Fs k with
      | is v =>
        rw [hF] at hfin hf
        simp only [finish] at hfin
        exact step d v hdk hf hfin
      | fits F =>
        rw [hF] at hfin hf
        simp only [finish] at hfin
        exact step d _ hdk rfl (hfin _ hf)
theorem doneOf_reverse (Fs : Nat → Fact) : ∀ n, (doneOf ops Fs n).reverse = (List.range' 0 n).map fun j => (dstOf ops j, Fs j)
  | 0 => rfl
  | n + 1 => by
    rw [doneOf, List.reverse_cons, doneOf_reverse Fs n, List.range'_concat, List.map_append]
    simp
theorem rep_false (n i : Nat) : (Array.replicate n false).getD i false = false := by
  rcases Nat.lt_or_ge i n with h | h
  · simp [h]
  · simp [Array.getElem?_eq_none, h]
theorem undef_ne (b : Bool) : undef ≠ Value.bool b := by unfold undef; intro h; cases h
theorem walk_any {a : Act} {Φ : Frames} {Fs : Nat → Fact} {Q : Exit → Act → World → Prop} (h : okB ops b Φ.chain a.tmps.size = true)
    (hG : ∀ k w w', Φ.Le w w' → Φ.G k w → Φ.G k w')
    (hob : ∀ i o, ops[i]? = some o → (Fs i).stable Φ ∧ StepOb P ops a Φ b i (doneOf ops Fs i) o (Fs i))
    (hfin : ∀ w, Φ.G Φ.chain.length w → finish (fun a' => Q .normal a' w) Φ.chain.length w (doneOf ops Fs ops.size).reverse a) :
    ∀ (fuel : Nat) (listed : Array Bool) (a' : Act) (w : World), listed.toList.count false = fuel → Inv ops a Φ Fs listed a' w → wpAny P .any ops Q fuel listed a' w := by
  have done : ∀ (listed : Array Bool) (a' : Act) (w : World), Inv ops a Φ Fs listed a' w → Region.ready .any ops listed = [] → Q .normal a' w := by
    intro listed a' w hI hr
    have hall := ready_nil h hI hr
    have hcl : cnt Φ listed = Φ.chain.length := by
      have hch : chainOk b ops.size Φ.chain = true := by
        have := h
        simp only [okB, Bool.and_eq_true] at this
        exact this.2
      have hc := (chain_facts Φ.chain hch).1
      have : (Φ.chain.filter fun c => listed.getD c false) = Φ.chain := List.filter_eq_self.2 fun c hc' => by
        obtain ⟨m, hm, he⟩ := List.getElem_of_mem hc'
        exact hall c (he ▸ hc m hm)
      unfold cnt
      rw [this]
    have hstage : Φ.G Φ.chain.length w := hcl ▸ hI.stage
    have hf := hfin w hstage
    rw [doneOf_reverse] at hf
    refine finish_gives (Q := fun a' => Q .normal a' w) h hI.size hI.defers (fun t ht => hI.base t fun j hl => ?_) (fun j d hj hd => hcl ▸ hI.facts j d (hall j hj) hd) ops.size 0 a (by omega) rfl rfl (fun t ht => ?_) hf
    · intro e
      have hjl : j < ops.size := by
        unfold dstOf at e
        obtain ⟨oj, hoj, _⟩ := Option.bind_eq_some_iff.1 e
        exact (Array.getElem?_eq_some_iff.1 hoj).1
      exact ht j hjl e
    · exact (hI.base t fun j hl e => by
        have hjl : j < ops.size := by
          unfold dstOf at e
          obtain ⟨oj, hoj, _⟩ := Option.bind_eq_some_iff.1 e
          exact (Array.getElem?_eq_some_iff.1 hoj).1
        exact ht j (by omega) hjl e).symm
  intro fuel
  induction fuel with
  | zero =>
    intro listed a' w hc hI
    have hnil : Region.ready .any ops listed = [] := by
      cases hr : Region.ready .any ops listed with
      | nil => rfl
      | cons x xs =>
        exfalso
        have hm : x ∈ Region.ready .any ops listed := by rw [hr]; simp
        obtain ⟨hx, ox, hox, _⟩ := mem_ready.1 hm
        have hlt : x < listed.size := by rw [hI.lsize]; exact (Array.getElem?_eq_some_iff.1 hox).1
        have := count_set hlt (listed_true hx)
        omega
    exact ⟨hnil, done listed a' w hI hnil⟩
  | succ fuel ih =>
    intro listed a' w hc hI
    refine ⟨done listed a' w hI, fun i hm => ?_⟩
    obtain ⟨hun', o, hi, hall⟩ := mem_ready.1 hm
    have hun := listed_true hun'
    have hlt : i < listed.size := by rw [hI.lsize]; exact (Array.getElem?_eq_some_iff.1 hi).1
    have hcount : (listed.setIfInBounds i true).toList.count false = fuel := by have := count_set hlt hun; omega
    obtain ⟨hst, hob'⟩ := hob i o hi
    have hIi := stage_at h hI hi hun hall
    have hfs := facts_all h hI hi hun hall o.op.operands.toList (fun x hx => by simpa using hx)
    have hsteps := hob' a'.eval _ w hIi hfs
    have next : ∀ v w1, (Fs i).holds (Φ.next i (cnt Φ listed)) v w1 → Φ.J i (cnt Φ listed) w w1 → wpAny P .any ops Q fuel (listed.setIfInBounds i true) (a'.put o.dst v) w1 := fun v w1 hF hJ =>
      ih _ _ _ hcount (inv_next h hG (fun j oj hj => (hob j oj hj).1) hI hi hun hall hF hJ)
    have run : okUpon P (Fs i) (Φ.J i (cnt Φ listed)) (Φ.next i (cnt Φ listed)) w ((execOp a'.eval o).run P w) → Oper.wp P o a' w (wpAny P .any ops Q fuel (listed.setIfInBounds i true)) Q := by
      intro hok
      unfold Oper.wp
      generalize (execOp a'.eval o).run P w = r at *
      cases r with
      | ok n w1 =>
        cases n <;> simp only [okUpon] at hok <;> simp only [Oper.upon]
        case value v => exact next v w1 hok.1 hok.2
        case skip => exact next undef w1 hok.1 hok.2
        case enter f args => exact hok.mono fun e w2 ⟨v, he, h1, h2⟩ => by subst he; exact next v w2 h1 h2
      | halt x w1 => simp only [okUpon] at hok
    unfold wpOp
    simp only [hi]
    cases hg : o.guard with
    | none =>
      simp only [hg] at hsteps
      simp only [Region.wanted, hg, if_true]
      exact .inl (run hsteps)
    | some gw =>
      obtain ⟨g, want⟩ := gw
      simp only [hg] at hsteps
      cases hd : dstOf ops g with
      | none =>
        have hy : yielded ops a'.tmps g = none := by simp only [dstOf] at hd; simp [yielded, hd]
        have hw : Region.wanted o (yielded ops a'.tmps) = false := by simp [Region.wanted, hg, hy]
        obtain ⟨_, h2⟩ := hsteps undef (by simp only [guardFact, hd]; rfl)
        obtain ⟨hF, hJ⟩ := h2 (undef_ne want)
        rw [hw]
        exact next undef w hF hJ
      | some d =>
        have hdt : d ∈ tmpsOf ops o := List.mem_append_right _ (by simp [hg, hd])
        have hfg := tmp_fact h hI hi hun hall hdt
        obtain ⟨h1, h2⟩ := hsteps (a'.tmps.getD d undef) (by simp only [guardFact, hd]; exact hfg)
        have hd' := hd
        simp only [dstOf] at hd'
        by_cases hv : a'.tmps.getD d undef = .bool want
        · have hw : Region.wanted o (yielded ops a'.tmps) = true := by
            have : a'.tmps[d]? = some (.bool want) := by
              rcases Nat.lt_or_ge d a'.tmps.size with h' | h'
              · simp [h'] at hv ⊢; exact hv
              · simp [Array.getElem?_eq_none h'] at hv
                exact absurd hv (undef_ne want)
            simp [Region.wanted, hg, yielded, hd', this]
          rw [hw]
          exact .inl (run (h1 hv))
        · have hw : Region.wanted o (yielded ops a'.tmps) = false := by
            simp only [Region.wanted, hg, yielded, hd', Option.bind_some]
            rcases Nat.lt_or_ge d a'.tmps.size with h' | h'
            · have hx : a'.tmps[d]? = some (a'.tmps.getD d undef) := by simp [h']
              rw [hx]
              cases hval : a'.tmps.getD d undef <;> simp_all
            · simp [Array.getElem?_eq_none h']
          obtain ⟨hF, hJ⟩ := h2 hv
          rw [hw]
          exact next undef w hF hJ
theorem wp_region_facts {id : Nat} {l : List Oper} {a : Act} {w : World} {Q : Exit → Act → World → Prop} (Φ : Frames) (hm : P.follows .mixedOrders = true)
    (h : okB l.toArray (Region.before l.toArray) Φ.chain a.tmps.size = true) (hG : ∀ k w w', Φ.Le w w' → Φ.G k w → Φ.G k w') (h0 : Φ.G 0 w.drew)
    (hw : Walk P l.toArray a Φ (Region.before l.toArray) (fun a' w' => Q .normal a' w') 0 [] l) : (Code.region id l.toArray true).wp P Q a w := by
  refine wp_region_any hm ?_
  obtain ⟨Fs, _, hall, hfin⟩ := walk_gives (P := P) (ops := l.toArray) (b := Region.before l.toArray) (a := a) (Φ := Φ) (Q := fun a' w' => Q .normal a' w') l 0 (fun _ => .is undef) (fun j => by simp) (by simp) hw
  refine walk_any h hG (fun i o hi => hall i o (Nat.zero_le _) hi) hfin _ _ a w.drew (by simp) ⟨by simp, fun i o hi hl => ?_, rfl, rfl, fun t _ => rfl, fun j d hl => ?_, ?_⟩
  · exact absurd ((rep_false _ _).symm.trans hl) (by simp)
  · exact absurd ((rep_false _ _).symm.trans hl) (by simp)
  · have : (Φ.chain.filter fun c => (Array.replicate l.toArray.size false).getD c false) = [] := List.filter_eq_nil_iff.2 fun c _ => by rw [rep_false]; simp
    unfold cnt
    rw [this]
    exact h0
def At (m : Nat) (F : Value → World → Prop) : Nat → Value → World → Prop := fun k v w => m ≤ k ∧ (k ≤ m → F v w)
theorem At.stable {Φ : Frames} {m : Nat} {F : Value → World → Prop} (h : ∀ u w w', Φ.Le w w' → F u w → F u w') : (Fact.fits (At m F)).stable Φ :=
  ⟨fun k u w w' _ hl hf => ⟨hf.1, fun hk => h u w w' hl (hf.2 hk)⟩, fun k u w w' _ _ _ hf => ⟨Nat.le_succ_of_le hf.1, fun hk => by have := hf.1; omega⟩⟩
def All (F : Value → World → Prop) : Nat → Value → World → Prop := fun _ v w => F v w
theorem All.stable {Φ : Frames} {F : Value → World → Prop} (h : ∀ u w w', Φ.Le w w' → F u w → F u w') (hc : ∀ k u w w', Φ.G k w → Φ.LeC k w w' → F u w → F u w') : (Fact.fits (All F)).stable Φ :=
  ⟨fun _ u w w' _ hl hf => h u w w' hl hf, fun k u w w' hg hl _ hf => hc k u w w' hg hl hf⟩
section
variable {a : Act} {Φ : Frames} {Q : Act → World → Prop} {i : Nat} {done : Done} {o : Oper} {l : List Oper}
def known (done : Done) (a : Act) (x : Operand) : Value := match factOf done a x with | .is v => v | .fits _ => undef
def isKnown (done : Done) (a : Act) (x : Operand) : Bool := match factOf done a x with | .is _ => true | .fits _ => false
theorem known_tmp (done : Done) (a : Act) (t : Tmp) : known done a (.tmp t) = match lk done t with | some (.is v) => v | some (.fits _) => undef | none => a.tmps.getD t undef := by
  simp only [known, factOf]
  cases lk done t with
  | none => rfl
  | some f => cases f <;> rfl
theorem known_const (done : Done) (a : Act) (v : Value) : known done a (.const v) = v := rfl
theorem known_func (done : Done) (a : Act) (f : FuncId) : known done a (.func f) = .func (.func f) #[] #[] := rfl
theorem known_global (done : Done) (a : Act) (g : Nat) : known done a (.global g) = .pointer (some ⟨g, 0, none⟩) := rfl
theorem known_facts {ρ : Operand → Value} {k : Nat} {w : World} : ∀ {xs : List Operand}, xs.all (isKnown done a) = true → factsHold done a ρ k w xs → ∀ x ∈ xs, ρ x = known done a x
  | [], _, _, x, hx => by cases hx
  | y :: r, hk, hf, x, hx => by
    simp only [List.all_cons, Bool.and_eq_true] at hk
    cases hx with
    | head =>
      have h1 := hf.1
      have h2 := hk.1
      unfold isKnown at h2
      unfold known
      cases hfx : factOf done a y with
      | is v => rw [hfx] at h1; exact h1
      | fits F => rw [hfx] at h2; cases h2
    | tail _ hm => exact known_facts hk.2 hf.2 x hm
def noSel : Op → Bool
  | .select .. => false
  | _ => true
theorem noSel_spec {op : Op} (h : noSel op = true) (cs : Array SelectCase) (b : Bool) : op ≠ .select cs b := by
  intro e; subst e; cases h
theorem known_exec {ρ : Operand → Value} {k : Nat} {w : World} (hs : noSel o.op = true) (hk : o.op.operands.toList.all (isKnown done a) = true) (hf : factsHold done a ρ k w o.op.operands.toList) : execOp ρ o = execOp (known done a) o :=
  execOp_congr o (noSel_spec hs) fun x hx => known_facts hk hf x (by simpa using hx)
def GuardYes (ops : Array Oper) (done : Done) (a : Act) (o : Oper) : Prop :=
  o.guard = none ∨ ∃ g want, o.guard = some (g, want) ∧ guardFact done a ops g = .is (.bool want)
theorem GuardYes.no (h : o.guard = none) : GuardYes ops done a o := .inl h
theorem GuardYes.yes {g : Nat} {want : Bool} (h : o.guard = some (g, want)) (hf : guardFact done a ops g = .is (.bool want)) : GuardYes ops done a o := .inr ⟨g, want, h, hf⟩
theorem StepOb.of {F : Fact} (hg : GuardYes ops done a o)
    (h : ∀ ρ k w, Φ.I b i k w → factsHold done a ρ k w o.op.operands.toList → okUpon P F (Φ.J i k) (Φ.next i k) w ((execOp ρ o).run P w)) : StepOb P ops a Φ b i done o F := by
  intro ρ k w hI hf
  rcases hg with hg | ⟨g, want, hg, hgf⟩
  · simp only [hg]
    exact h ρ k w hI hf
  · simp only [hg, hgf, Fact.holds]
    rintro vg rfl
    exact ⟨fun _ => h ρ k w hI hf, fun hn => absurd rfl hn⟩
theorem Walk.pure {v : Value} (hle : ∀ w, Φ.Le w w) (hch : Φ.chain.idxOf? i = none) (hg : GuardYes ops done a o) (hs : noSel o.op = true) (hk : o.op.operands.toList.all (isKnown done a) = true)
    (h : ∀ k w, Φ.I b i k w → (execOp (known done a) o).run P w = .ok (.value v) w)
    (hw : Walk P ops a Φ b Q (i + 1) ((o.dst, .is v) :: done) l) : Walk P ops a Φ b Q i done (o :: l) := by
  refine ⟨.is v, trivial, StepOb.of hg fun ρ k w hI hf => ?_, hw⟩
  simp only [known_exec hs hk hf, h k w hI, okUpon, Fact.holds, true_and]
  unfold Frames.J
  rw [hch]
  exact hle w
theorem Walk.skip {bb : Bool} {g : Nat} {want : Bool} (hle : ∀ w, Φ.Le w w) (hch : Φ.chain.idxOf? i = none) (hg : o.guard = some (g, want)) (hgf : guardFact done a ops g = .is (.bool bb)) (hb : bb ≠ want)
    (hw : Walk P ops a Φ b Q (i + 1) ((o.dst, .is undef) :: done) l) : Walk P ops a Φ b Q i done (o :: l) := by
  refine ⟨.is undef, trivial, fun ρ k w hI hf => ?_, hw⟩
  simp only [hg, hgf, Fact.holds]
  rintro vg rfl
  refine ⟨fun h => absurd (by injection h) hb, fun _ => ⟨trivial, ?_⟩⟩
  unfold Frames.J
  rw [hch]
  exact hle w
theorem Walk.call (F : Fact) (hst : F.stable Φ) (hg : GuardYes ops done a o) (hs : noSel o.op = true) (hk : o.op.operands.toList.all (isKnown done a) = true)
    (h : ∀ k w, Φ.I b i k w → okUpon P F (Φ.J i k) (Φ.next i k) w ((execOp (known done a) o).run P w))
    (hw : Walk P ops a Φ b Q (i + 1) ((o.dst, F) :: done) l) : Walk P ops a Φ b Q i done (o :: l) :=
  ⟨F, hst, StepOb.of hg fun ρ k w hI hf => by rw [known_exec hs hk hf]; exact h k w hI, hw⟩
theorem Walk.any (F : Fact) (hst : F.stable Φ) (hg : GuardYes ops done a o)
    (h : ∀ ρ k w, Φ.I b i k w → factsHold done a ρ k w o.op.operands.toList → okUpon P F (Φ.J i k) (Φ.next i k) w ((execOp ρ o).run P w))
    (hw : Walk P ops a Φ b Q (i + 1) ((o.dst, F) :: done) l) : Walk P ops a Φ b Q i done (o :: l) :=
  ⟨F, hst, StepOb.of hg h, hw⟩
end
end
end Go.Proofs.Ytcfbkhgdlgnmgaa.Vc
set_option linter.unusedVariables false
set_option linter.unusedSimpArgs false
namespace Go.Proofs.Ytcfbkhgdlgnmgaa.Vc
open Go.RowKit
section
variable {P : Program} {ops : Array Oper} {b : Array Nat} {chain : List Nat} {size : Nat}
theorem walk_gives_to {a : Act} {Φ : Frames} {Q : Act → World → Prop} {m : Nat} : ∀ (l : List Oper) (k : Nat) (Fs₀ : Nat → Fact), (∀ j, j < l.length → l[j]? = ops[k + j]?) → k + l.length = m → m ≤ ops.size →
    Walk P ops a Φ b Q k (doneOf ops Fs₀ k) l →
    ∃ Fs : Nat → Fact, (∀ j, j < k ∨ m ≤ j → Fs j = Fs₀ j) ∧ (∀ i o, k ≤ i → i < m → ops[i]? = some o → (Fs i).stable Φ ∧ StepOb P ops a Φ b i (doneOf ops Fs i) o (Fs i)) ∧
      ∀ w, Φ.G Φ.chain.length w → finish (fun a' => Q a' w) Φ.chain.length w (doneOf ops Fs m).reverse a
  | [], k, Fs₀, hl, hk, hm, h => by
    refine ⟨Fs₀, fun _ _ => rfl, fun i o hi him ho => ?_, ?_⟩
    · simp at hk
      omega
    · have hk' : k = m := by simpa using hk
      rw [← hk']
      exact h
  | o :: l, k, Fs₀, hl, hk, hmo, h => by
    have h0 : ops[k]? = some o := by simpa using (hl 0 (by simp)).symm
    obtain ⟨F, hst, hob, hw⟩ := h
    let Fs₁ : Nat → Fact := fun j => if j = k then F else Fs₀ j
    have hdone : ∀ m, m ≤ k → doneOf ops Fs₁ m = doneOf ops Fs₀ m := by
      intro m
      induction m with
      | zero => intro _; rfl
      | succ m ihm =>
        intro hm
        have : Fs₁ m = Fs₀ m := by simp [Fs₁, show m ≠ k by omega]
        simp only [doneOf, this, ihm (by omega)]
    have hstep : doneOf ops Fs₁ (k + 1) = (o.dst, F) :: doneOf ops Fs₀ k := by
      have : Fs₁ k = F := by simp [Fs₁]
      simp only [doneOf, this, hdone k (Nat.le_refl _), dstOf, h0, Option.bind_some]
    rw [← hstep] at hw
    obtain ⟨Fs, hsame, hall, hfin⟩ := walk_gives_to l (k + 1) Fs₁ (fun j hj => by have := hl (j + 1) (by simpa using hj); simpa [Nat.add_assoc, Nat.add_comm 1 j] using this) (by simp at hk; omega) hmo hw
    have hFk : Fs k = F := by rw [hsame k (.inl (by omega))]; simp [Fs₁]
    have hFd : ∀ m, m ≤ k → doneOf ops Fs m = doneOf ops Fs₀ m := by
      intro m
      induction m with
      | zero => intro _; rfl
      | succ m ihm =>
        intro hm
        have h1 : Fs m = Fs₀ m := by rw [hsame m (.inl (by omega))]; simp [Fs₁, show m ≠ k by omega]
        simp only [doneOf, h1, ihm (by omega)]
    refine ⟨Fs, fun j hj => ?_, fun i oi hi him hoi => ?_, hfin⟩
    · have hj' : j ≠ k := by simp at hk; omega
      rw [hsame j (by omega)]
      simp [Fs₁, hj']
    · by_cases hik : i = k
      · subst hik
        rw [h0] at hoi
        injection hoi with hoi
        subst hoi
        rw [hFk, hFd i (Nat.le_refl _)]
        exact ⟨hst, hob⟩
      · exact hall i oi (by omega) him hoi
theorem finish_gives_to {chain : List Nat} {a a' : Act} {st : Nat} {w : World} {Fs : Nat → Fact} {Q : Act → Prop} {m : Nat} (hm : m ≤ ops.size) (h : okB ops b chain a.tmps.size = true)
    (hsz : a'.tmps.size = a.tmps.size) (hdf : a'.defers = a.defers) (hbase : ∀ t, (∀ j, j < m → dstOf ops j ≠ some t) → a'.tmps[t]? = a.tmps[t]?)
    (hfacts : ∀ j d, j < m → dstOf ops j = some d → (Fs j).holds st (a'.tmps.getD d undef) w) :
    ∀ (n k : Nat) (x : Act), k + n = m → x.tmps.size = a.tmps.size → x.defers = a.defers →
      (∀ t, (∀ j, k ≤ j → j < m → dstOf ops j ≠ some t) → x.tmps[t]? = a'.tmps[t]?) →
      finish Q st w ((List.range' k n).map fun j => (dstOf ops j, Fs j)) x → Q a'
  | 0, k, x, hk, hs, hd, hx, hfin => by
    have : x = a' := by
      obtain ⟨xt, xd⟩ := x
      obtain ⟨at', ad⟩ := a'
      have e1 : xt = at' := Array.ext_getElem? fun t => hx t fun j h1 h2 => by omega
      have e2 : xd = ad := by simp at hd hdf; rw [hd, hdf]
      rw [e1, e2]
    rw [← this]
    exact hfin
  | n + 1, k, x, hk, hs, hd, hx, hfin => by
    simp only [List.range'_succ, List.map_cons] at hfin
    have step : ∀ d v, dstOf ops k = some d → a'.tmps.getD d undef = v → finish Q st w ((List.range' (k + 1) n).map fun j => (dstOf ops j, Fs j)) (x.put (some d) v) → Q a' := by
      intro d v hdk hv hf
      refine finish_gives_to hm h hsz hdf hbase hfacts n (k + 1) (x.put (some d) v) (by omega) (by rw [put_size]; exact hs) (by rw [put_defers_same]; exact hd) (fun t ht => ?_) hf
      by_cases htd : d = t
      · subst htd
        have hlt : d < x.tmps.size := by rw [hs]; exact dst_lt h hdk
        have hlt' : d < a'.tmps.size := by rw [hsz]; exact dst_lt h hdk
        simp only [Act.put]
        rw [Array.getElem?_setIfInBounds_self_of_lt hlt, ← hv]
        simp [hlt']
      · simp only [Act.put, Array.getElem?_setIfInBounds_ne htd]
        exact hx t fun j h1 h2 => by
          by_cases hjk : j = k
          · subst hjk; rw [hdk]; intro e; injection e with e; exact htd e
          · exact ht j (by omega) h2
    cases hdk : dstOf ops k with
    | none =>
      rw [hdk] at hfin
      simp only [finish] at hfin
      refine finish_gives_to hm h hsz hdf hbase hfacts n (k + 1) x (by omega) hs hd (fun t ht => hx t fun j h1 h2 => ?_) hfin
      by_cases hjk : j = k
      · subst hjk; rw [hdk]; intro e; cases e
      · exact ht j (by omega) h2
    | some d =>
      rw [hdk] at hfin
      have hf := hfacts k d (by omega) hdk
      cases hF : Fs k with
      | is v =>
        rw [hF] at hfin hf
        simp only [finish] at hfin
        exact step d v hdk hf hfin
      | fits F =>
        rw [hF] at hfin hf
        simp only [finish] at hfin
        exact step d _ hdk rfl (hfin _ hf)
def tailOk (ops : Array Oper) (b : Array Nat) (m : Nat) : Bool := (List.range ops.size).all fun i => Nat.blt i m || (List.range i).all fun j => bit b i j
theorem tailOk_at {m : Nat} (h : tailOk ops b m = true) {i j : Nat} (hi : i < ops.size) (hm : m ≤ i) (hj : j < i) : bit b i j = true := by
  simp only [tailOk, List.all_eq_true, List.mem_range, Bool.or_eq_true, Nat.blt_eq] at h
  rcases h i hi with h | h
  · omega
  · exact h j hj
theorem drop_cons_of {l : List Oper} {k : Nat} (h : k < l.length) : ∃ o, l[k]? = some o ∧ l.drop k = o :: l.drop (k + 1) :=
  ⟨l[k], List.getElem?_eq_getElem h, List.drop_eq_getElem_cons h⟩
theorem tail_any {Q : Exit → Act → World → Prop} {l : List Oper} {m : Nat} (h : okB l.toArray b chain size = true) (ht : tailOk l.toArray b m = true) :
    ∀ (n k : Nat) (listed : Array Bool) (a : Act) (w : World), k + n = l.length → m ≤ k → listed.size = l.length → (∀ j, j < l.length → listed.getD j false = decide (j < k)) →
      wpList P l.toArray Q (l.drop k) a w → wpAny P .any l.toArray Q n listed a w
  | 0, k, listed, a, w, hk, hmk, hs, hl, hw => by
    have e : l.drop k = [] := List.drop_eq_nil_of_le (by omega)
    rw [e] at hw
    refine ⟨?_, hw⟩
    cases hr : Region.ready .any l.toArray listed with
    | nil => rfl
    | cons x xs =>
      exfalso
      have hm : x ∈ Region.ready .any l.toArray listed := by rw [hr]; simp
      obtain ⟨hx, ox, hox, _⟩ := mem_ready.1 hm
      have hlt : x < l.length := by simpa using (Array.getElem?_eq_some_iff.1 hox).1
      have h1 := hl x hlt
      rw [listed_true hx] at h1
      simp at h1
      omega
  | n + 1, k, listed, a, w, hk, hmk, hs, hl, hw => by
    have hkl : k < l.length := by omega
    obtain ⟨o, ho, hd⟩ := drop_cons_of hkl
    have hoa : l.toArray[k]? = some o := by simpa using ho
    have hcl : Closed l.toArray fun i => listed.getD i false := by
      intro i oi hi hli e he hb
      have hil : i < l.length := by simpa using (Array.getElem?_eq_some_iff.1 hi).1
      have h1 := hl i hil
      simp only at hli ⊢
      rw [hli] at h1
      have h2 := edge_lt h hi he hb
      rw [hl e.on (by omega)]
      simp at h1 ⊢
      omega
    have hready : k ∈ Region.ready .any l.toArray listed := by
      refine mem_ready.2 ⟨?_, o, hoa, fun e he hb => ?_⟩
      · have := hl k hkl
        have hk' : k < listed.size := by omega
        simp [hk'] at this ⊢
        exact this
      · have h2 := edge_lt h hoa he hb
        rw [hl e.on (by omega)]
        simpa using h2
    refine ⟨fun hr => by rw [hr] at hready; simp at hready, fun i hi => ?_⟩
    obtain ⟨hun', oi, hoi, hall⟩ := mem_ready.1 hi
    have hun := listed_true hun'
    have hil : i < l.length := by simpa using (Array.getElem?_eq_some_iff.1 hoi).1
    have hik : i = k := by
      have h1 := hl i hil
      rw [hun] at h1
      have hki : k ≤ i := by simpa using h1.symm
      rcases Nat.lt_or_ge k i with hlt | hge
      · have hbit := tailOk_at ht (show i < l.toArray.size by rw [List.size_toArray]; exact hil) (by omega) hlt
        have := listed_of_bit h hcl k (show k < l.toArray.size by rw [List.size_toArray]; exact hkl) i oi hoi hall hbit
        rw [hl k hkl] at this
        simp at this
      · omega
    subst hik
    have next : ∀ a' w', wpList P l.toArray Q (l.drop (i + 1)) a' w' → wpAny P .any l.toArray Q n (listed.setIfInBounds i true) a' w' := fun a' w' hw' =>
      tail_any h ht n (i + 1) _ a' w' (by omega) (by omega) (by simpa using hs) (fun j hj => by
        by_cases hji : i = j
        · subst hji
          have : i < listed.size := by omega
          simp [this]
        · rw [getD_set_ne false hji, hl j hj]
          simp
          omega) hw'
    rw [hd] at hw
    have e : wpOp P l.toArray Q i (wpList P l.toArray Q (l.drop (i + 1))) a w := by
      unfold wpOp
      simp only [hoa]
      exact hw
    exact wpOp_mono next e
def Makes (P : Program) (o : Oper) : Prop := o.guard = none ∧ ∀ ρ w n w', (execOp ρ o).run P w = .ok n w' → n = .value (.pointer (some ⟨w.heap.size, 0, none⟩)) ∧ w.heap.size < w'.heap.size
def Apart (ops : Array Oper) (news : List Nat) (a : Act) : Prop := ∀ i ∈ news, ∀ j ∈ news, i ≠ j → ∀ d d', dstOf ops i = some d → dstOf ops j = some d' → a.tmps.getD d undef ≠ a.tmps.getD d' undef
structure Fresh (ops : Array Oper) (news : List Nat) (listed : Array Bool) (a : Act) (w : World) : Prop where
  at_ : ∀ i ∈ news, listed.getD i false = true → ∀ d, dstOf ops i = some d → ∃ g, a.tmps.getD d undef = .pointer (some ⟨g, 0, none⟩) ∧ g < w.heap.size
  apart : ∀ i ∈ news, ∀ j ∈ news, i ≠ j → listed.getD i false = true → listed.getD j false = true → ∀ d d', dstOf ops i = some d → dstOf ops j = some d' → a.tmps.getD d undef ≠ a.tmps.getD d' undef
theorem put_other {a : Act} {d d' : Nat} {v : Value} (h : d' ≠ d) : (a.put (some d') v).tmps.getD d undef = a.tmps.getD d undef := by
  simp only [Act.put, Array.getD_eq_getD_getElem?, Array.getElem?_setIfInBounds_ne h]
theorem put_self' {a : Act} {d : Nat} {v : Value} (h : d < a.tmps.size) : (a.put (some d) v).tmps.getD d undef = v := by
  simp [Act.put, h]
theorem Fresh.next {news : List Nat} {listed : Array Bool} {a : Act} {w w1 : World} {i : Nat} {o : Oper} {v : Value} (h : okB ops b chain size = true) (hs : a.tmps.size = size) (hF : Fresh ops news listed a w)
    (hi : ops[i]? = some o) (hz : w.heap.size ≤ w1.heap.size) (hv : i ∈ news → v = .pointer (some ⟨w.heap.size, 0, none⟩) ∧ w.heap.size < w1.heap.size) (hil : i < listed.size) :
    Fresh ops news (listed.setIfInBounds i true) (a.put o.dst v) w1 := by
  have hset : ∀ c, (listed.setIfInBounds i true).getD c false = true → c ≠ i → listed.getD c false = true := fun c hc hci => by
    rwa [getD_set_ne false (fun e => hci e.symm)] at hc
  have hdi : dstOf ops i = o.dst := by simp [dstOf, hi]
  have old : ∀ j d, j ≠ i → dstOf ops j = some d → (a.put o.dst v).tmps.getD d undef = a.tmps.getD d undef := by
    intro j d hj hd
    cases ho : o.dst with
    | none => rfl
    | some d' => exact put_other (fun e => hj (uniq h hd (by rw [hdi, ho, e])))
  have new : ∀ d, dstOf ops i = some d → (a.put o.dst v).tmps.getD d undef = v := by
    intro d hd
    rw [hdi] at hd
    rw [hd]
    exact put_self' (by rw [hs]; exact dst_lt h (hdi.trans hd))
  refine ⟨fun j hj hl d hd => ?_, fun j hj k hk hne hl hl' d d' hd hd' => ?_⟩
  · by_cases hji : j = i
    · subst hji
      obtain ⟨e, hlt⟩ := hv hj
      exact ⟨_, (new d hd).trans e, hlt⟩
    · obtain ⟨g, e, hlt⟩ := hF.at_ j hj (hset j hl hji) d hd
      exact ⟨g, (old j d hji hd).trans e, by omega⟩
  · by_cases hji : j = i
    · subst hji
      obtain ⟨e, hlt⟩ := hv hj
      obtain ⟨g, e', hlt'⟩ := hF.at_ k hk (hset k hl' (fun e => hne e.symm)) d' hd'
      rw [new d hd, old k d' (fun e => hne e.symm) hd', e, e']
      intro h0
      injection h0 with h0
      injection h0 with h0
      injection h0 with h0
      omega
    · by_cases hki : k = i
      · subst hki
        obtain ⟨e, hlt⟩ := hv hk
        obtain ⟨g, e', hlt'⟩ := hF.at_ j hj (hset j hl hji) d hd
        rw [new d' hd', old j d hji hd, e, e']
        intro h0
        injection h0 with h0
        injection h0 with h0
        injection h0 with h0
        omega
      · rw [old j d hji hd, old k d' hki hd']
        exact hF.apart j hj k hk hne (hset j hl hji) (hset k hl' hki) d d' hd hd'
theorem count_tail {listed : Array Bool} {m n : Nat} (hs : listed.size = n) (hm : m ≤ n) (hl : ∀ j, j < n → listed.getD j false = decide (j < m)) : listed.toList.count false = n - m := by
  have e : listed.toList = List.replicate m true ++ List.replicate (n - m) false := by
    apply List.ext_getElem
    · simp; omega
    · intro j h1 h2
      have hj : j < n := by simpa [hs] using h1
      have := hl j hj
      have hjl : j < listed.size := by omega
      simp [hjl] at this
      rw [List.getElem_append]
      split
      · rename_i h3
        simp at h3
        simp [this, h3]
      · rename_i h3
        simp at h3
        simp [this]
        omega
  rw [e, List.count_append, List.count_replicate, List.count_replicate]
  simp
theorem walk_split {a : Act} {Φ : Frames} {Fs : Nat → Fact} {Q : Exit → Act → World → Prop} {l : List Oper} {m : Nat} {news : List Nat} (hops : ops = l.toArray) (h : okB ops b Φ.chain a.tmps.size = true)
    (ht : tailOk ops b m = true) (hml : m ≤ l.length) (hcm : ∀ c ∈ Φ.chain, c < m) (hnm : ∀ i ∈ news, ∃ o, ops[i]? = some o ∧ Makes P o)
    (hsz : ∀ w w', Φ.Le w w' → w.heap.size ≤ w'.heap.size) (hszC : ∀ k w w', Φ.LeC k w w' → w.heap.size ≤ w'.heap.size) (hnews : ∀ i ∈ news, i < m)
    (hG : ∀ k w w', Φ.Le w w' → Φ.G k w → Φ.G k w') (hst : ∀ i o, ops[i]? = some o → (Fs i).stable Φ)
    (hob : ∀ i o, i < m → ops[i]? = some o → (Fs i).stable Φ ∧ StepOb P ops a Φ b i (doneOf ops Fs i) o (Fs i))
    (hfin : ∀ w, Φ.G Φ.chain.length w → finish (fun a' => Apart ops news a' → wpList P ops Q (l.drop m) a' w) Φ.chain.length w (doneOf ops Fs m).reverse a) :
    ∀ (fuel : Nat) (listed : Array Bool) (a' : Act) (w : World), listed.toList.count false = fuel → Inv ops a Φ Fs listed a' w → Fresh ops news listed a' w →
      (∀ i, m ≤ i → i < l.length → listed.getD i false = false) → wpAny P .any ops Q fuel listed a' w := by
  have hz0 : ops.size = l.length := by rw [hops, List.size_toArray]
  intro fuel
  induction fuel with
  | zero =>
    intro listed a' w hc hI hF hpre
    have hsl : listed.size = l.length := by rw [hI.lsize, hz0]
    by_cases hall : ∀ i, i < m → listed.getD i false = true
    · have hld : ∀ j, j < l.length → listed.getD j false = decide (j < m) := by
        intro j hj
        by_cases hjm : j < m
        · rw [hall j hjm]; simp [hjm]
        · rw [hpre j (by omega) hj]; simp [hjm]
      have hcnt := count_tail hsl hml hld
      have hcl : cnt Φ listed = Φ.chain.length := by
        have : (Φ.chain.filter fun c => listed.getD c false) = Φ.chain := List.filter_eq_self.2 fun c hc' => hall c (hcm c hc')
        unfold cnt
        rw [this]
      have hf := hfin w (hcl ▸ hI.stage)
      rw [doneOf_reverse] at hf
      have hf := finish_gives_to (Q := fun a' => Apart ops news a' → wpList P ops Q (l.drop m) a' w) (m := m) (by omega) h hI.size hI.defers
        (fun t ht' => hI.base t fun j hl e => by
          have hjl : j < l.length := by
            unfold dstOf at e
            obtain ⟨oj, hoj, _⟩ := Option.bind_eq_some_iff.1 e
            have := (Array.getElem?_eq_some_iff.1 hoj).1; omega
          rw [hld j hjl] at hl
          exact ht' j (by simpa using hl) e)
        (fun j d hj hd => hcl ▸ hI.facts j d (hall j hj) hd) m 0 a (by omega) rfl rfl
        (fun t ht' => (hI.base t fun j hl e => by
          have hjl : j < l.length := by
            unfold dstOf at e
            obtain ⟨oj, hoj, _⟩ := Option.bind_eq_some_iff.1 e
            have := (Array.getElem?_eq_some_iff.1 hoj).1; omega
          rw [hld j hjl] at hl
          exact ht' j (by omega) (by simpa using hl) e).symm) hf
      have hf := hf (fun i hi j hj hne d d' hd hd' => hF.apart i hi j hj hne (hall i (hnews i hi)) (hall j (hnews j hj)) d d' hd hd')
      subst hops
      exact tail_any h ht _ m listed a' w (by omega) (Nat.le_refl _) hsl hld hf
    · exfalso
      apply hall
      intro i hi
      cases hx : listed.getD i false with
      | true => rfl
      | false =>
        have := count_set (by omega) hx
        omega
  | succ fuel ih =>
    intro listed a' w hc hI hF hpre
    have hsl : listed.size = l.length := by rw [hI.lsize, hz0]
    by_cases hall : ∀ i, i < m → listed.getD i false = true
    · have hld : ∀ j, j < l.length → listed.getD j false = decide (j < m) := by
        intro j hj
        by_cases hjm : j < m
        · rw [hall j hjm]; simp [hjm]
        · rw [hpre j (by omega) hj]; simp [hjm]
      have hcnt := count_tail hsl hml hld
      have hcl : cnt Φ listed = Φ.chain.length := by
        have : (Φ.chain.filter fun c => listed.getD c false) = Φ.chain := List.filter_eq_self.2 fun c hc' => hall c (hcm c hc')
        unfold cnt
        rw [this]
      have hf := hfin w (hcl ▸ hI.stage)
      rw [doneOf_reverse] at hf
      have hf := finish_gives_to (Q := fun a' => Apart ops news a' → wpList P ops Q (l.drop m) a' w) (m := m) (by omega) h hI.size hI.defers
        (fun t ht' => hI.base t fun j hl e => by
          have hjl : j < l.length := by
            unfold dstOf at e
            obtain ⟨oj, hoj, _⟩ := Option.bind_eq_some_iff.1 e
            have := (Array.getElem?_eq_some_iff.1 hoj).1; omega
          rw [hld j hjl] at hl
          exact ht' j (by simpa using hl) e)
        (fun j d hj hd => hcl ▸ hI.facts j d (hall j hj) hd) m 0 a (by omega) rfl rfl
        (fun t ht' => (hI.base t fun j hl e => by
          have hjl : j < l.length := by
            unfold dstOf at e
            obtain ⟨oj, hoj, _⟩ := Option.bind_eq_some_iff.1 e
            have := (Array.getElem?_eq_some_iff.1 hoj).1; omega
          rw [hld j hjl] at hl
          exact ht' j (by omega) (by simpa using hl) e).symm) hf
      have hf := hf (fun i hi j hj hne d d' hd hd' => hF.apart i hi j hj hne (hall i (hnews i hi)) (hall j (hnews j hj)) d d' hd hd')
      subst hops
      exact tail_any h ht _ m listed a' w (by omega) (Nat.le_refl _) hsl hld hf
    · refine ⟨fun hr => absurd (fun i hi => ready_nil h hI hr i (by omega)) hall, fun i hm => ?_⟩
      obtain ⟨hun', o, hi, hall'⟩ := mem_ready.1 hm
      have hun := listed_true hun'
      have hlt : i < listed.size := by rw [hI.lsize]; exact (Array.getElem?_eq_some_iff.1 hi).1
      have hcount : (listed.setIfInBounds i true).toList.count false = fuel := by have := count_set hlt hun; omega
      have him : i < m := by
        rcases Nat.lt_or_ge i m with h' | h'
        · exact h'
        · exfalso
          apply hall
          intro j hj
          exact listed_of_bit h hI.closed j (by omega) i o hi hall' (tailOk_at ht (Array.getElem?_eq_some_iff.1 hi).1 h' (by omega))
      obtain ⟨_, hob'⟩ := hob i o him hi
      have hIi := stage_at h hI hi hun hall'
      have hfs := facts_all h hI hi hun hall' o.op.operands.toList (fun x hx => by simpa using hx)
      have hsteps := hob' a'.eval _ w hIi hfs
      have hmk : i ∈ news → ∀ n w', (execOp a'.eval o).run P w = .ok n w' → n = .value (.pointer (some ⟨w.heap.size, 0, none⟩)) ∧ w.heap.size < w'.heap.size := fun hi' => by
        obtain ⟨o', ho', hm'⟩ := hnm i hi'
        rw [hi] at ho'
        injection ho' with ho'
        subst ho'
        exact hm'.2 _ _
      have hng : i ∈ news → o.guard = none := fun hi' => by
        obtain ⟨o', ho', hm'⟩ := hnm i hi'
        rw [hi] at ho'
        injection ho' with ho'
        subst ho'
        exact hm'.1
      have hJz : ∀ w1, Φ.J i (cnt Φ listed) w w1 → w.heap.size ≤ w1.heap.size := fun w1 hJ => by
        unfold Frames.J at hJ
        cases hk : Φ.chain.idxOf? i with
        | none => rw [hk] at hJ; exact hsz _ _ hJ
        | some x => rw [hk] at hJ; exact hszC _ _ _ hJ.1
      have next : ∀ v w1, (Fs i).holds (Φ.next i (cnt Φ listed)) v w1 → Φ.J i (cnt Φ listed) w w1 → (i ∈ news → v = .pointer (some ⟨w.heap.size, 0, none⟩) ∧ w.heap.size < w1.heap.size) → wpAny P .any ops Q fuel (listed.setIfInBounds i true) (a'.put o.dst v) w1 := fun v w1 hFv hJ hv =>
        ih _ _ _ hcount (inv_next h hG hst hI hi hun hall' hFv hJ) (hF.next h hI.size hi (hJz w1 hJ) hv hlt) (fun j hj hjl => by rw [getD_set_ne false (by omega)]; exact hpre j hj hjl)
      have run : okUpon P (Fs i) (Φ.J i (cnt Φ listed)) (Φ.next i (cnt Φ listed)) w ((execOp a'.eval o).run P w) → Oper.wp P o a' w (wpAny P .any ops Q fuel (listed.setIfInBounds i true)) Q := by
        intro hok
        unfold Oper.wp
        generalize (execOp a'.eval o).run P w = r at *
        cases r with
        | ok n w1 =>
          cases n <;> simp only [okUpon] at hok <;> simp only [Oper.upon]
          case value v => exact next v w1 hok.1 hok.2 (fun hi' => by obtain ⟨e, hlt'⟩ := hmk hi' _ _ rfl; injection e with e; exact ⟨e, hlt'⟩)
          case skip => exact next undef w1 hok.1 hok.2 (fun hi' => by obtain ⟨e, _⟩ := hmk hi' _ _ rfl; cases e)
          case enter f args => exact hok.mono fun e w2 ⟨v, he, h1, h2⟩ => by subst he; exact next v w2 h1 h2 (fun hi' => by obtain ⟨e, _⟩ := hmk hi' _ _ rfl; cases e)
        | halt x w1 => simp only [okUpon] at hok
      unfold wpOp
      simp only [hi]
      cases hg : o.guard with
      | none =>
        simp only [hg] at hsteps
        simp only [Region.wanted, hg, if_true]
        exact .inl (run hsteps)
      | some gw =>
        obtain ⟨g, want⟩ := gw
        simp only [hg] at hsteps
        cases hd : dstOf ops g with
        | none =>
          have hy : yielded ops a'.tmps g = none := by simp only [dstOf] at hd; simp [yielded, hd]
          have hw : Region.wanted o (yielded ops a'.tmps) = false := by simp [Region.wanted, hg, hy]
          obtain ⟨_, h2⟩ := hsteps undef (by simp only [guardFact, hd]; rfl)
          obtain ⟨hF', hJ⟩ := h2 (undef_ne want)
          rw [hw]
          exact next undef w hF' hJ (fun hi' => by have := hng hi'; rw [hg] at this; cases this)
        | some d =>
          have hdt : d ∈ tmpsOf ops o := List.mem_append_right _ (by simp [hg, hd])
          have hfg := tmp_fact h hI hi hun hall' hdt
          obtain ⟨h1, h2⟩ := hsteps (a'.tmps.getD d undef) (by simp only [guardFact, hd]; exact hfg)
          have hd' := hd
          simp only [dstOf] at hd'
          by_cases hv : a'.tmps.getD d undef = .bool want
          · have hw : Region.wanted o (yielded ops a'.tmps) = true := by
              have : a'.tmps[d]? = some (.bool want) := by
                rcases Nat.lt_or_ge d a'.tmps.size with h' | h'
                · simp [h'] at hv ⊢; exact hv
                · simp [Array.getElem?_eq_none h'] at hv
                  exact absurd hv (undef_ne want)
              simp [Region.wanted, hg, yielded, hd', this]
            rw [hw]
            exact .inl (run (h1 hv))
          · have hw : Region.wanted o (yielded ops a'.tmps) = false := by
              simp only [Region.wanted, hg, yielded, hd', Option.bind_some]
              rcases Nat.lt_or_ge d a'.tmps.size with h' | h'
              · have hx : a'.tmps[d]? = some (a'.tmps.getD d undef) := by simp [h']
                rw [hx]
                cases hval : a'.tmps.getD d undef <;> simp_all
              · simp [Array.getElem?_eq_none h']
            obtain ⟨hF', hJ⟩ := h2 hv
            rw [hw]
            exact next undef w hF' hJ (fun hi' => by have := hng hi'; rw [hg] at this; cases this)
theorem wp_region_split {id : Nat} {l : List Oper} {a : Act} {w : World} {Q : Exit → Act → World → Prop} (Φ : Frames) (m : Nat) (news : List Nat) (hm : P.follows .mixedOrders = true)
    (h : okB l.toArray (Region.before l.toArray) Φ.chain a.tmps.size = true) (ht : tailOk l.toArray (Region.before l.toArray) m = true) (hml : m ≤ l.length) (hcm : ∀ c ∈ Φ.chain, c < m)
    (hnm : ∀ i ∈ news, ∃ o, l.toArray[i]? = some o ∧ Makes P o) (hnews : ∀ i ∈ news, i < m)
    (hsz : ∀ w w', Φ.Le w w' → w.heap.size ≤ w'.heap.size) (hszC : ∀ k w w', Φ.LeC k w w' → w.heap.size ≤ w'.heap.size)
    (hG : ∀ k w w', Φ.Le w w' → Φ.G k w → Φ.G k w') (h0 : Φ.G 0 w.drew)
    (hw : Walk P l.toArray a Φ (Region.before l.toArray) (fun a' w' => Apart l.toArray news a' → wpList P l.toArray Q (l.drop m) a' w') 0 [] (l.take m)) : (Code.region id l.toArray true).wp P Q a w := by
  refine wp_region_any hm ?_
  have hlt : (l.take m).length = m := by rw [List.length_take]; omega
  obtain ⟨Fs, hrest, hall, hfin⟩ := walk_gives_to (P := P) (ops := l.toArray) (b := Region.before l.toArray) (a := a) (Φ := Φ) (m := m) (l.take m) 0 (fun _ => .is undef) (fun j hj => by rw [hlt] at hj; simp [List.getElem?_take_of_lt hj]) (by omega) (by rw [List.size_toArray]; exact hml) hw
  refine walk_split rfl h ht hml hcm hnm hsz hszC hnews hG (fun i o hi => ?_) (fun i o him hi => hall i o (Nat.zero_le _) him hi) hfin _ _ a w.drew (by simp) ⟨by simp, fun i o hi hl => ?_, rfl, rfl, fun t _ => rfl, fun j d hl => ?_, ?_⟩ ⟨fun i _ hl => ?_, fun i _ j _ _ hl => ?_⟩ (fun i _ _ => rep_false _ _)
  · by_cases him : i < m
    · exact (hall i o (Nat.zero_le _) him hi).1
    · rw [hrest i (.inr (by omega))]
      trivial
  · exact absurd ((rep_false _ _).symm.trans hl) (by simp)
  · exact absurd ((rep_false _ _).symm.trans hl) (by simp)
  · have : (Φ.chain.filter fun c => (Array.replicate l.toArray.size false).getD c false) = [] := List.filter_eq_nil_iff.2 fun c _ => by rw [rep_false]; simp
    unfold cnt
    rw [this]
    exact h0
  · exact absurd ((rep_false _ _).symm.trans hl) (by simp)
  · exact absurd ((rep_false _ _).symm.trans hl) (by simp)
end
end Go.Proofs.Ytcfbkhgdlgnmgaa.Vc
set_option linter.unusedVariables false
set_option linter.unusedSimpArgs false
namespace Go.Proofs.Ytcfbkhgdlgnmgaa
open Go.RowKit Go.Maps Go.Sort
attribute [local go_sem] Vc.known_tmp Vc.known_const Vc.known_func Vc.known_global Vc.lk Vc.okUpon Vc.Fact.holds
theorem info_ch : (Try.prog.info? 70).map (fun i => (i.zero, i.size, i.bytes)) = some (some (.agg #[.string ByteArray.empty, .slice none 0 0, .bool false]), 3, 48) := by kernel_rfl
section
variable {X : Nat → Prop} {w w' : World} {p bn bk c : Nat} {A : Option Addr} {s : V}
theorem chCells_one (v : Value) (ch : Ch) (hv : v.oneCell' = true) : ∀ u ∈ chCells (v, ch), u.oneCell' = true := by
  intro u hu
  simp only [chCells, List.mem_cons, List.not_mem_nil, or_false] at hu
  rcases hu with rfl | rfl | rfl
  · rfl
  · exact hv
  · rfl
theorem Mem.appended (h : Mem w X p bn bk A c s) (hg : w.grownBy w' (blkOf A)) {X' : Nat → Prop} {A' : Option Addr} {c' : Nat} {l : List Ch} (hs : SinceAt w' X A' c' l) (hX : ∀ i, X i → X' i) (hx : ∀ g, blkOf A' = some g → X' g) (hl : ∀ i, X' i → i < w'.heap.size) :
    Mem (w'.setCell ⟨p, 2, none⟩ (.slice A' l.length c')) X' p bn bk A' c' { s with since := l } := by
  have hk := h.contOf hg (fun g e => .inr (.inr (.inr e)))
  have hpr : Row w' p 66 (vfsCells bn bk A c s) := (hg.block _ h.row.lt (fun e => h.p_ne_since e.symm rfl)).trans h.row
  have hn : FilesAt w' X bn s.now := h.now.keep (hg.block _ h.now.lt (fun e => h.now_ne_since e.symm rfl)) hk
  have hkp : FilesAt w' X bk s.kept := h.kept.keep (hg.block _ h.kept.lt (fun e => h.kept_ne_since e.symm rfl)) hk
  have hg2 := only_set w' p 2 (.slice A' l.length c')
  have hk2 : ∀ v xs, Cont w' X v xs → Cont (w'.setCell ⟨p, 2, none⟩ (.slice A' l.length c')) X' v xs := fun v xs hc =>
    hc.tr (Tr.of_grown (X := fun i => i = p) hg2 (fun g e => by injection e with e; exact e.symm)) (fun i _ _ hy _ e => by
      subst hy
      unfold Row at hpr
      rw [e] at hpr
      injection hpr with hpr
      injection hpr with _ hpr
      cases hpr) hX
  refine ⟨hpr.set 2 _, hn.keep (hg2.block _ hn.lt ?_) hk2, hkp.keep (hg2.block _ hkp.lt ?_) hk2, hs.keep hg2 ?_ hk2, h.ne, hX _ h.xp, hX _ h.xn, hX _ h.xk, hx, fun i hi => Nat.lt_of_lt_of_le (hl i hi) hg2.size⟩
  · intro e; injection e with e; exact h.p_ne_now e.symm
  · intro e; injection e with e; exact h.p_ne_kept e.symm
  · intro g hga e
    injection e with e
    obtain ⟨z, h1, h2, h3⟩ := hs
    rcases h3.2 with ⟨h0, _⟩ | ⟨g', rest, rfl, hb, hr, r⟩
    · rw [h0] at hga; cases hga
    · injection hga with hga
      subst hga
      exact hpr.ne hr (by decide) e
set_option maxHeartbeats 4000000 in
theorem done_any (h : Mem w X p bn bk A c s) (hok : s.Ok) (hs : Sm s) {ch : Ch} {v : Value} (hv : Cont w X v ch.b) (hn : ch.name.length ≤ 20) (hb : ch.b.length ≤ mostRoom) :
    Calls Try.prog 35 #[.pointer (some ⟨p, 0, none⟩), chV v ch] w fun e w' => e = .returned (.int .i64 (deadNo (s.done ch).dead)) ∧ ∃ X', At w' X' p (s.done ch) ∧ Mv w X w' X' := by
  obtain ⟨i0, hi, hz0, hz1, hz2⟩ := info_parts info_ch
  have hlen : s.now.length ≤ 1000000 := Nat.le_trans hok.nowL hs.ops
  have hsl : s.since.length ≤ 1000000 := by have := hok.keptL; have := hs.ops; omega
  obtain ⟨A0, n0, c0, rfl, hv'⟩ := id hv
  have hv := Lib.hid hv
  clear hv'
  have hrow := Row.new w 70 [encStr ch.name, .slice A0 n0 c0, .bool ch.gone]
  have hg1 := Gr.alloc1 w (.cells [encStr ch.name, .slice A0 n0 c0, .bool ch.gone].toArray 70)
  go_enter Try.func35, Try.ntmps35
  unfold chV
  go_wp2_with fail
  have hm := h.gr hg1
  have hnx : ¬ X w.heap.size := fun hx => absurd (h.lt _ hx) (by omega)
  have hv1 : Cont (w.alloc (.cells [encStr ch.name, .slice A0 n0 c0, .bool ch.gone].toArray 70)) X (.slice A0 n0 c0) ch.b := hv.out.tr (Tr.of_gr (X := fun _ => False) hg1) (fun _ _ _ hf => hf.elim) (fun _ h => h)
  have hM1 := Mv.of_gr hg1 X
  have hsz := hrow.lt
  generalize hg0 : w.heap.size = g0 at *
  generalize w.alloc (.cells #[encStr ch.name, .slice A0 n0 c0, .bool ch.gone] 70) = w1 at *
  have hm := hm.gr (Gr.draw w1)
  have hM1 := hM1.trans (Mv.of_gr (Gr.draw w1) X)
  have hrow := hrow.drew
  have hv1 : Cont w1.drew X (.slice A0 n0 c0) ch.b := hv1.tr (Tr.of_gr (X := fun _ => False) (Gr.draw w1)) (fun _ _ _ hf => hf.elim) (fun _ h => h)
  have HD := Lib.hid (do_any (ch := ch) hm.now hv1 hn hlen)
  have y0 := Lib.hid hm.cells.1
  have y1 := Lib.hid (And.intro (hrow.cell 0) (And.intro (hrow.cell 1) (hrow.cell 2)))
  simp only [List.getElem?_cons_zero, List.getElem?_cons_succ] at y1
  unfold chV at HD
  refine Vc.wp_region_split ⟨fun W W' => W = W', fun _ W W' => W = W', fun _ W => W = w1.drew, []⟩ 5 [] (by kernel_rfl) (by kernel_rfl) (by kernel_rfl) (by decide) (by simp) (by simp) (by simp) (fun _ _ h => h ▸ Nat.le_refl _) (fun _ _ _ h => h ▸ Nat.le_refl _) (fun _ _ _ h h' => h ▸ h') rfl ?_
  repeat
    refine Vc.Walk.pure (v := ?_) (fun _ => rfl) rfl (by first | exact Vc.GuardYes.no rfl | exact Vc.GuardYes.yes rfl rfl) rfl rfl ?_ ?_
    rotate_left
    · intro _ W hI
      (obtain rfl := hI.g; clear hI; have q0 := y0.out; have q1 := y1.out.1; have q2 := y1.out.2.1; have q3 := y1.out.2.2)
      go_simp
      exact rfl
  rintro W rfl
  simp only [List.reverse_cons, List.reverse_nil, List.nil_append, List.cons_append, Vc.finish, Act.put, List.setIfInBounds_toArray, List.set_cons_zero, List.set_cons_succ]
  rintro _
  simp only [List.drop_succ_cons, List.drop_zero]
  go_wp2_with (go_at_call 51; (with_reducible refine HD.out.mono ?_); rintro e w2 ⟨rfl, hf2, hg2⟩)
  have hm2 := hm.now_turned hf2 hg2
  have hM2 : Mv w X w2 X := hM1.trans ⟨Tr.of_grown hg2 (fun g e => by injection e with e; exact e ▸ hm.xn), fun _ h => h, fun _ h => .inl h⟩
  have hrow2 : Row w2 g0 70 [encStr ch.name, .slice A0 n0 c0, .bool ch.gone] := hrow.only hg2 (fun e => hnx (e ▸ hm.xn))
  have hv2 := hm.contOf hg2 (fun g e => by injection e with e; exact .inr (.inl e.symm)) _ _ hv1
  clear HD y0 y1 hg2 hf2 hrow hv1 hM1 hm hv hg1 hsz
  have hm2 := hm2.gr (Gr.draw w2)
  have hM2 := hM2.trans (Mv.of_gr (Gr.draw w2) X)
  have hrow2 := hrow2.drew
  have hv2 : Cont w2.drew X (.slice A0 n0 c0) ch.b := hv2.tr (Tr.of_gr (X := fun _ => False) (Gr.draw w2)) (fun _ _ _ hf => hf.elim) (fun _ h => h)
  generalize hw3 : w2.drew = w3 at *
  obtain ⟨z, z1, z2, hown⟩ := id hm2.since
  have z1 : z.map (·.2) = s.since := z1
  have hgne : ∀ g, blkOf A = some g → g0 ≠ g := fun g hg e => hnx (e ▸ hm2.xs g hg)
  have hpne : ∀ g, blkOf A = some g → p ≠ g := fun g hg => hm2.p_ne_since hg
  have y0 := Lib.hid (show w3.cell? ⟨p, 2, none⟩ = some (.slice A s.since.length c) from hm2.cells.2.2.1)
  have y1 := Lib.hid (And.intro (hrow2.cell 0) (And.intro (hrow2.cell 1) (hrow2.cell 2)))
  simp only [List.getElem?_cons_zero, List.getElem?_cons_succ] at y1
  have hown := Lib.hid (show Own w3 0 70 3 A s.since.length c (z.flatMap chCells) from hown)
  generalize hxs : z.flatMap chCells = xs at *
  generalize hnn : s.since.length = n at *
  subst hw3
  refine Vc.wp_region_split ⟨Gr, fun _ W W' => W.grownBy W' (blkOf A), fun k W => w2.drew.grownBy W (blkOf A) ∧ Own W 0 70 3 A n c xs ∧ (k = 0 → Gr w2.drew W), [7]⟩ 10 [] (by kernel_rfl) (by kernel_rfl) (by kernel_rfl) (by decide) (by simp) (by simp) (by simp) (fun _ _ h => h.size) (fun _ _ _ h => h.size) (fun _ _ _ h h' => ⟨only_trans h'.1 (only_of_gr h _), h'.2.1.gr h, fun e => (h'.2.2 e).trans' h⟩) ⟨only_refl _ _, hown.out, fun _ => Gr.rfl' _⟩ ?_
  repeat
    refine Vc.Walk.pure (v := ?_) (fun _ => Gr.rfl' _) rfl (by first | exact Vc.GuardYes.no rfl | exact Vc.GuardYes.yes rfl rfl) rfl rfl ?_ ?_
    rotate_left
    · intro _ W hI
      (have q := hI.g.1; clear hI; have q0 := q.cell y0.out (fun e => hpne _ e.symm rfl); have q1 := q.cell y1.out.1 (fun e => hgne _ e.symm rfl); have q2 := q.cell y1.out.2.1 (fun e => hgne _ e.symm rfl); have q3 := q.cell y1.out.2.2 (fun e => hgne _ e.symm rfl); clear q)
      go_simp
      exact rfl
  refine Vc.Walk.any (.fits (Vc.At 0 fun v W => ∃ g, v = .slice (some ⟨g, 0, none⟩) 1 1 ∧ Rd W (some ⟨g, 0, none⟩) [encStr ch.name, .slice A0 n0 c0, .bool ch.gone])) (Vc.At.stable (fun u W W' hl hf => by obtain ⟨g, e, h⟩ := hf; exact ⟨g, e, h.gr hl⟩)) (.no rfl) ?_ ?_
  · intro ρ k W hI hf
    have hk := hI.le 0 7 rfl (by kernel_rfl)
    obtain rfl : k = 0 := by omega
    have e1 : ρ (.tmp 16) = .agg #[encStr ch.name, .slice A0 n0 c0, .bool ch.gone] := hf.1
    clear hI hf
    go_simp
    exact ⟨⟨Nat.le_refl _, fun _ => ⟨_, rfl, Rd.new W [encStr ch.name, .slice A0 n0 c0, .bool ch.gone] _⟩⟩, Gr.alloc1 _ _⟩
  refine Vc.Walk.any (.fits (Vc.At 1 fun v W => ∃ A' c', v = .slice A' (n + 1) c' ∧ Own W 0 70 3 A' (n + 1) c' (xs ++ [encStr ch.name, .slice A0 n0 c0, .bool ch.gone]) ∧ ∀ g, blkOf A' = some g → blkOf A = some g ∨ w2.drew.heap.size ≤ g)) (Vc.At.stable (fun u W W' hl hf => by obtain ⟨A', c', e, h, h'⟩ := hf; exact ⟨A', c', e, h.gr hl, h'⟩)) (.no rfl) ?_ ?_
  · intro ρ k W hI hf
    obtain rfl := hI.eq 0 rfl
    have hg := hI.g
    obtain ⟨hρ1, ⟨_, hf1⟩, _⟩ := hf
    obtain ⟨g, hρ2, hrd⟩ := hf1 (Nat.le_refl _)
    have e1 : ρ (.tmp 15) = .slice A n c := hρ1
    have e2 : ρ (.tmp 17) = .slice (some ⟨g, 0, none⟩) 1 1 := hρ2
    obtain ⟨A3, c3, W', hrun, ho3, hk3⟩ := run_append (P := Try.prog) W 0 64 64 70 i0 _ 3 48 Try.underlying64 hi hz0 hz1 hz2 rfl (by omega) A n c xs hg.2.1 (some ⟨g, 0, none⟩) 1 1 _ rfl hrd (chCells_one (.slice A0 n0 c0) ch rfl) (by omega) (by unfold maxLen; omega) (Nat.zero_le _)
    have hgr := hg.2.2 rfl
    have hg1 := hg.1
    clear hI hf1 hρ1 hρ2
    unfold execOp
    simp only [resolve, invoke, builtin, Sem.run_bind, Sem.run_pure, Result.andThen_ok, List.map_toArray, List.map_cons, List.map_nil, e1, e2, hrun, Vc.okUpon]
    refine ⟨⟨Nat.le_refl _, fun _ => ⟨_, _, rfl, ho3, fun g' hg' => ?_⟩⟩, hk3.grown, only_trans hg1 hk3.grown, hg.2.1.back hk3.2.2, fun e => absurd e (by simp)⟩
    rcases hk3.2.1 with ⟨rfl, _⟩ | ⟨rfl, _⟩
    · exact .inl hg'
    · injection hg' with hg'
      exact .inr (hg' ▸ hgr.size)
  repeat
    refine Vc.Walk.pure (v := ?_) (fun _ => Gr.rfl' _) rfl (by first | exact Vc.GuardYes.no rfl | exact Vc.GuardYes.yes rfl rfl) rfl rfl ?_ ?_
    rotate_left
    · intro _ W hI
      (clear hI)
      go_simp
      exact rfl
  rintro W ⟨hgW, hoW, _⟩
  simp only [List.reverse_cons, List.reverse_nil, List.nil_append, List.cons_append, Vc.finish, Act.put, List.setIfInBounds_toArray, List.set_cons_zero, List.set_cons_succ]
  rintro u17 _ u18 ⟨_, hu⟩ _
  obtain ⟨A', c', rfl, ho3, hA'⟩ := hu (Nat.le_refl _)
  clear hu
  simp only [List.drop_succ_cons, List.drop_zero]
  have hpW := hgW.cell y0.out (fun e => hpne _ e.symm rfl)
  have hfW : W.frozen? ⟨p, 2, none⟩ = false := (Row.frozen ((hgW.block _ hm2.row.lt (fun e => hpne _ e.symm rfl)).trans hm2.row) 2)
  have hW2 : w2.drew.heap.size ≤ W.heap.size := hgW.size
  have hkW := hm2.contOf hgW (fun g e => .inr (.inr (.inr e)))
  have hs4 : SinceAt W X A' c' (s.since ++ [ch]) := by
    refine ⟨z ++ [(.slice A0 n0 c0, ch)], by simp [z1], fun q hq => ?_, ?_⟩
    · rcases List.mem_append.1 hq with hq | hq
      · exact hkW _ _ (z2 q hq)
      · obtain rfl : q = (.slice A0 n0 c0, ch) := by simpa using hq
        exact hkW _ _ hv2
    · have e1 : (z ++ [((Value.slice A0 n0 c0), ch)]).flatMap chCells = xs ++ [encStr ch.name, .slice A0 n0 c0, .bool ch.gone] := by rw [List.flatMap_append, hxs]; rfl
      have e2 : (s.since ++ [ch]).length = n + 1 := by simp [hnn]
      rw [e1, e2]
      exact ho3
  have hm4 := hm2.appended (X' := fun i => X i ∨ blkOf A' = some i) hgW hs4 (fun _ h => .inl h) (fun g hg => .inr hg) (fun i hi => by
    rcases hi with hi | hi
    · exact Nat.lt_of_lt_of_le (hm2.lt i hi) hW2
    · exact (ho3.blk i hi).2)
  have e2 : (s.since ++ [ch]).length = n + 1 := by simp [hnn]
  rw [e2] at hm4
  have hM4 : Mv w X (W.setCell ⟨p, 2, none⟩ (.slice A' (n + 1) c')) (fun i => X i ∨ blkOf A' = some i) := by
    refine hM2.trans ⟨?_, fun _ h => .inl h, fun i hi => ?_⟩
    · exact (Tr.of_grown (X := X) hgW (fun g e => hm2.xs g e)).trans (Tr.of_grown (X := X) (only_set W p 2 _) (fun g e => by injection e with e; exact e ▸ hm2.xp)) (fun _ _ h => h)
    · rcases hi with hi | hi
      · exact .inl hi
      · rcases hA' i hi with h1 | h1
        · exact .inl (hm2.xs i h1)
        · exact .inr h1
  have HS := Lib.hid (step_any hm4 ⟨hs.ops, hs.stop⟩)
  have hres : (V.step { ({ s with now := ch.act s.now } : V) with since := s.since ++ [ch] }) = s.done ch := rfl
  rw [hres] at HS
  have hok2 := ok_done hok hn hb
  generalize hs5 : s.done ch = s5 at *
  clear hm2 hm4 hs4 hkW hoW ho3 hown y0 y1 hrow2 hv2
  cases hd : s5.dead with
  | true =>
    rw [hd] at HS
    go_wp2_with (go_at_call 37; (with_reducible refine HS.out.mono ?_); rintro e w5 ⟨rfl, hm5, hg5⟩)
    go_ret
    subst hs5
    exact ⟨by rw [hd]; rfl, _, ⟨hok2, _, _, _, _, hm5⟩, hM4.trans ⟨Tr.of_grown hg5 (fun g e => by injection e with e; exact e ▸ hm5.xp), fun _ h => h, fun _ h => .inl h⟩⟩
  | false =>
    rw [hd] at HS
    go_wp2_with (go_at_call 37; (with_reducible refine HS.out.mono ?_); rintro e w5 ⟨rfl, hm5, hg5⟩)
    go_ret
    subst hs5
    exact ⟨by rw [hd]; rfl, _, ⟨hok2, _, _, _, _, hm5⟩, hM4.trans ⟨Tr.of_grown hg5 (fun g e => by injection e with e; exact e ▸ hm5.xp), fun _ h => h, fun _ h => .inl h⟩⟩
end
end Go.Proofs.Ytcfbkhgdlgnmgaa
set_option linter.unusedVariables false
set_option linter.unusedSimpArgs false
namespace Go.Proofs.Ytcfbkhgdlgnmgaa
open Go.RowKit Go.Maps Go.Sort
section
variable {X : Nat → Prop} {w w' : World} {p bn bk c : Nat} {A : Option Addr} {s : V}
theorem dead_any (h : At w X p s) : Calls Try.prog 45 #[.pointer (some ⟨p, 0, none⟩)] w fun e w' => e = .returned (.bool s.dead) ∧ w' = w := by
  obtain ⟨hok, bn, bk, A, c, h⟩ := h
  obtain ⟨c0, c1, c2, c3, c4, c5, c6⟩ := h.cells
  go_enter Try.func45, Try.ntmps45
  go_wp2
  go_ret
  exact ⟨rfl, rfl⟩
theorem room_any (h : At w X p s) : Calls Try.prog 59 #[.pointer (some ⟨p, 0, none⟩)] w fun e w' => e = .returned (.int .i64 s.room) ∧ w' = w := by
  obtain ⟨hok, bn, bk, A, c, h⟩ := h
  obtain ⟨c0, c1, c2, c3, c4, c5, c6⟩ := h.cells
  go_enter Try.func59, Try.ntmps59
  go_wp2
  go_ret
  exact ⟨rfl, rfl⟩
theorem roomOf_eq (r : Int) : ((roomOf r : Nat) : Int) = min (max r 0) 1048576 := by unfold roomOf mostRoom; omega
theorem new_any (r : Int) (w : World) : Calls Try.prog 16 #[.int .i64 r] w fun e w' => ∃ g X', e = .returned (.pointer (some ⟨g, 0, none⟩)) ∧ At w' X' g (V.new r) ∧ Gr w w' ∧ ∀ i, X' i → w.heap.size ≤ i := by
  have hr := roomOf_eq r
  have n1 := FilesAt.made w (fun i => w.heap.size ≤ i ∧ i < w.heap.size + 1 + 1 + 1)
  have n2 := FilesAt.made (w.alloc (.map #[] 0)) (fun i => w.heap.size ≤ i ∧ i < w.heap.size + 1 + 1 + 1)
  have hcells : vfsCells w.heap.size (w.heap.size + 1) none 0 (V.new r) = [.map (some w.heap.size), .map (some (w.heap.size + 1)), .slice none 0 0, .int .i64 (min (max r 0) 1048576), .int .i64 0, .int .i64 0, .bool false] := by
    simp [vfsCells, V.new, hr]
  have hrow := Row.new ((w.alloc (.map #[] 0)).alloc (.map #[] 0)) 66 (vfsCells w.heap.size (w.heap.size + 1) none 0 (V.new r))
  rw [hcells] at hrow
  have hG1 : Gr (w.alloc (.map #[] 0)) ((w.alloc (.map #[] 0)).alloc (.map #[] 0)) := Gr.alloc1 _ _
  have hG2 := Gr.alloc1 ((w.alloc (.map #[] 0)).alloc (.map #[] 0)) (.cells [.map (some w.heap.size), .map (some (w.heap.size + 1)), .slice none 0 0, .int .i64 (min (max r 0) 1048576), .int .i64 0, .int .i64 0, .bool false].toArray 66)
  have mk := fun w => run_makeMap (P := Try.prog) 63 w
  go_enter Try.func16, Try.ntmps16
  go_wp2
  go_ret
  have hct : ∀ {W W' : World} {X : Nat → Prop}, Gr W W' → ∀ v xs, Cont W X v xs → Cont W' X v xs := fun hg v xs hc => hc.tr (Tr.of_gr (X := fun _ => False) hg) (fun _ _ _ hf => hf.elim) (fun _ h => h)
  refine ⟨w.heap.size + 1 + 1, fun i => w.heap.size ≤ i ∧ i < w.heap.size + 1 + 1 + 1, by simp, ⟨ok_new r, w.heap.size, w.heap.size + 1, none, 0, ?_⟩, (Gr.alloc1 w _).trans' (hG1.trans' hG2), fun i h => h.1⟩
  refine ⟨by rw [hcells]; simpa using hrow, ?_, ?_, SinceAt.nil _ _, by omega, ⟨by omega, by omega⟩, ⟨Nat.le_refl _, by omega⟩, ⟨by omega, by omega⟩, (fun g hg => by cases hg), fun i hi => by simp; omega⟩
  · exact n1.keep ((hG1.trans' hG2).block _ (by simp)) (hct (hG1.trans' hG2))
  · have := n2.keep (hG2.block _ (by simp)) (hct hG2)
    rw [show (w.alloc (.map #[] 0)).heap.size = w.heap.size + 1 by simp] at this
    exact this
def V.read (s : V) (n : Str) : Str × Bool × Int := if s.dead then ([], false, 15) else ((s.now.get n).getD [], (s.now.get n).isSome, 0)
theorem get_room (hok : s.Ok) (n : Str) : ((s.now.get n).getD []).length ≤ mostRoom := by
  cases h : s.now.get n with
  | none => simp
  | some b => exact (hok.nowB _ (get_some h)).2
theorem read_any (h : At w X p s) (n : Str) (hn : n.length ≤ maxLen) : Calls Try.prog 44 #[.pointer (some ⟨p, 0, none⟩), encStr n] w fun e w' =>
    ∃ A' m c', e = .returned (.tuple #[.slice A' m c', .bool (s.read n).2.1, .int .i64 (s.read n).2.2]) ∧ m = (s.read n).1.length ∧ Own w' w.heap.size 5 1 A' m c' ((s.read n).1.map bv) ∧ Gr w w' := by
  obtain ⟨hok, bn, bk, A, c, h⟩ := h
  obtain ⟨c0, c1, c2, c3, c4, c5, c6⟩ := h.cells
  cases hd : s.dead with
  | true =>
    have e1 : s.read n = ([], false, 15) := by simp [V.read, hd]
    rw [e1]
    rw [hd] at c6
    go_enter Try.func44, Try.ntmps44
    go_wp2
    go_ret3
    exact ⟨none, 0, 0, rfl, rfl, Own.nil _ _ _ _, Gr.rfl' _⟩
  | false =>
    have e1 : s.read n = ((s.now.get n).getD [], (s.now.get n).isSome, 0) := by simp [V.read, hd]
    rw [e1]
    rw [hd] at c6
    obtain ⟨A1, m1, cc, hc, hrun⟩ := h.now.look_ok hn
    have hl := hrun w rfl
    obtain ⟨A2, m2, c2', e2, hlen, hle, hcm, hrd⟩ := id hc
    injection e2 with e2 e3 e4
    subst e2 e3 e4
    have hm := get_room hok n
    have HC := Lib.hid (cloneB_any A1 m1 cc _ w hlen hrd.rd (by unfold mostRoom at hm; omega))
    clear hrun hc
    go_enter Try.func44, Try.ntmps44
    go_wp2_with (go_at_call 36; (with_reducible refine HC.out.mono ?_); rintro e w2 ⟨A', c', rfl, ho, hg⟩)
    go_ret3
    exact ⟨A', m1, c', rfl, hlen.symm, ho, hg⟩
end
end Go.Proofs.Ytcfbkhgdlgnmgaa
set_option linter.unusedVariables false
set_option linter.unusedSimpArgs false
namespace Go.Proofs.Ytcfbkhgdlgnmgaa
open Go.RowKit Go.Maps Go.Sort
theorem key_inv {key : Value} {kl : Lit} (h : keyOf Try.prog 9 key = some kl) : ∃ n : Str, key = encStr n := by
  cases key <;> simp [keyOf, Try.underlying9, mapKey] at h
  rename_i x
  exact ⟨x.data.toList, by simp [encStr]⟩
section
variable {X : Nat → Prop} {w w' : World} {p bn bk c : Nat} {A : Option Addr} {s : V}
set_option maxHeartbeats 1000000 in
theorem used_mem (h : Mem w X p bn bk A c s) (hok : s.Ok) (hs : s.now.used ≤ 4611686018427387904) :
    Calls Try.prog 34 #[.pointer (some ⟨p, 0, none⟩)] w fun e w' => e = .returned (.int .i64 (s.now.used : Nat)) ∧ Gr w w' := by
  obtain ⟨c0, c1, c2, c3, c4, c5, c6⟩ := h.cells
  have hown := h.now.owns
  have hsz := h.now.size
  generalize hD : (DataW.map ((Classical.choose h.now).map zent) : DataW Value) = D at hown hsz
  go_enter Try.func34, Try.ntmps34
  go_wp2_with (at_range; refine wpList_range_own _ rfl _ 63 rfl 9 29 keyed Try.underlying63 R1 bn s.now.length D rfl hown ?_; intro w0 hrg0 hg0 hs0)
  go_frame
  go_loopw [3] (fun i wr => ∃ (left : Lit → Bool) (cnt k : Nat), wr.ranges Try.prog 9 R1 bn w.heap.size s.now.length D left cnt ∧ i = .int .i64 k ∧ k + leftUsed s.now left = s.now.used ∧ Gr w wr) (fun _ wr => wr.rangeLeft bn w.heap.size)
  case atStart =>
    refine ⟨_, _, 0, hrg0, rfl, ?_, only_gr hg0⟩
    rw [Nat.zero_add]
    refine leftUsed_all _ fun q hq => ?_
    have h1 := (Classical.choose_spec h.now).1
    subst hD
    rw [zhas, h1]
    have : s.now.get q.1 = some q.2 := get_of_mem hok.now hq
    rw [this]
    rfl
  case round =>
    obtain ⟨left, cnt, k, hrg, rfl, hk, hG⟩ := hrel
    go_wp2_with (at_next; refine wpList_next_ranges _ rfl _ rfl 9 keyed R1 encStr (fun q : Option Addr × Nat × Nat => .slice q.1 q.2.1 q.2.2) (fun _ _ => key_inv) (fun _ _ hR => ⟨_, (Classical.choose_spec (R1_inv hR)).1⟩) bn w.heap.size s.now.length D left cnt rfl hrg ?_ ?_)
    · intro hc0 hl0
      go_wp2
      go_ret
      rw [leftUsed_none _ hl0] at hk
      exact ⟨by rw [← hk]; rfl, hG⟩
    · intro x qa qn qc kl y yp w1 cnt1 hkey hlk hR hat hrg1 hlt hg1 hs1 hen
      have hR2 : y = .held (.slice qa qn qc) := by
        obtain ⟨_, _, e⟩ := R1_inv hR
        exact congrArg Prod.fst e
      subst hD
      obtain ⟨m, b, e1, hm, hct⟩ := h.now.entry (fun d => (hat d).trans hR2) (keyed.key hkey)
      subst e1
      obtain ⟨A2, n2, c2', e2, hlen, hle, hcm, hrd⟩ := id hct
      injection e2 with e2 e3 e4
      subst e2 e3 e4
      have hstep := leftUsed_step hok.now hm hlk
      have hub := used_ge hm
      have hk2 : k + qn ≤ s.now.used := by omega
      go_wp2
      go_roundw
      case rel =>
        refine ⟨_, cnt1, k + qn, hrg1, by simp, ?_, Below.grown hG hg1 hG.size (fun g hg => by cases hg; exact Nat.le_refl _)⟩
        omega
      case measure => rw [hrg1.left_eq, hrg.left_eq]; exact hlt
theorem used_any (h : At w X p s) (hs : Sm s) : Calls Try.prog 34 #[.pointer (some ⟨p, 0, none⟩)] w fun e w' => e = .returned (.int .i64 (s.now.used : Nat)) ∧ Gr w w' := by
  obtain ⟨hok, bn, bk, A, c, h⟩ := h
  have := used_small hok hs.ops
  exact used_mem h hok (by unfold mostRoom at this; omega)
theorem names_any (h : At w X p s) (hs : Sm s) : Calls Try.prog 23 #[.pointer (some ⟨p, 0, none⟩)] w fun e w' => ∃ A n c, e = .returned (.slice A n c) ∧ n = s.now.length ∧ Own w' w.heap.size 9 1 A n c ((s.now.map (·.1)).map encStr) ∧ Gr w w' := by
  obtain ⟨hok, bn, bk, A, c, h⟩ := h
  exact names_core w h.now hok.now (Nat.le_trans hok.nowL hs.ops) h.cells.1
set_option maxHeartbeats 1000000 in
theorem remove_any (h : At w X p s) (hs : Sm s) (n : Str) (hn : n.length ≤ maxLen) :
    Calls Try.prog 67 #[.pointer (some ⟨p, 0, none⟩), encStr n] w fun e w' => e = .returned (.int .i64 (s.remove n).2) ∧ ∃ X', At w' X' p (s.remove n).1 ∧ Mv w X w' X' := by
  have h' := h
  obtain ⟨hok, bn, bk, A, c, h⟩ := h
  obtain ⟨c0, c1, c2, c3, c4, c5, c6⟩ := h.cells
  cases hd : s.dead with
  | true =>
    have e1 : s.remove n = (s, 15) := by simp [V.remove, hd]
    rw [e1]
    rw [hd] at c6
    go_enter Try.func67, Try.ntmps67
    go_wp2
    go_ret
    exact ⟨rfl, X, h', Mv.rfl' _ _⟩
  | false =>
    rw [hd] at c6
    obtain ⟨A1, m1, cc, _, hrun⟩ := h.now.look_ok hn
    have hl := hrun w rfl
    cases hg : s.now.get n with
    | none =>
      have e1 : s.remove n = (s, 2) := by simp [V.remove, hd, hg]
      rw [e1]
      rw [hg] at hl
      simp only [Option.isSome_none] at hl
      clear hrun
      go_enter Try.func67, Try.ntmps67
      go_wp2
      go_ret
      exact ⟨rfl, X, h', Mv.rfl' _ _⟩
    | some b =>
      have e1 : s.remove n = (s.done ⟨n, [], true⟩, deadNo (s.done ⟨n, [], true⟩).dead) := by simp [V.remove, hd, hg]
      rw [e1]
      rw [hg] at hl
      simp only [Option.isSome_some] at hl
      have HD := Lib.hid (done_any (ch := ⟨n, [], true⟩) h hok hs (Cont.nil w X) (hok.nowB _ (get_some hg)).1 (Nat.zero_le _))
      unfold chV at HD
      clear hrun
      go_enter Try.func67, Try.ntmps67
      go_wp2_with (go_at_call 35; (with_reducible refine HD.out.mono ?_); rintro e w2 ⟨rfl, hr⟩)
      go_ret
      exact ⟨rfl, hr⟩
end
end Go.Proofs.Ytcfbkhgdlgnmgaa
set_option linter.unusedVariables false
set_option linter.unusedSimpArgs false
namespace Go.Proofs.Ytcfbkhgdlgnmgaa
open Go.RowKit Go.Maps Go.Sort
attribute [local go_sem] Vc.known_tmp Vc.known_const Vc.known_func Vc.known_global Vc.lk Vc.okUpon Vc.Fact.holds
section
variable {X : Nat → Prop} {w w' : World} {p bn bk c : Nat} {A : Option Addr} {s : V}
theorem Mem.with_new (h : Mem w X p bn bk A c s) (hg : Gr w w') {A' : Option Addr} (hlt : ∀ g, blkOf A' = some g → w.heap.size ≤ g ∧ g < w'.heap.size) :
    Mem w' (fun i => X i ∨ blkOf A' = some i) p bn bk A c s ∧ Mv w X w' (fun i => X i ∨ blkOf A' = some i) := by
  have h2 := h.gr hg
  refine ⟨h2.more (fun _ h => .inl h) (fun i hi => ?_), Tr.of_gr hg, fun _ h => .inl h, fun i hi => ?_⟩
  · rcases hi with hi | hi
    · exact h2.lt i hi
    · exact (hlt i hi).2
  · rcases hi with hi | hi
    · exact .inl hi
    · exact .inr (hlt i hi).1
set_option maxHeartbeats 4000000 in
theorem write_any (h : At w X p s) (hs : Sm s) (n : Str) (hn : n.length ≤ maxLen) (A2 : Option Addr) (n2 c2 : Nat) (b : Str) (hb : Hid (b.length = n2)) (hr : Rd w A2 (b.map bv)) (hl : n2 ≤ 1000000) :
    Calls Try.prog 17 #[.pointer (some ⟨p, 0, none⟩), encStr n, .slice A2 n2 c2] w fun e w' => e = .returned (.int .i64 (s.write n b).2) ∧ ∃ X', At w' X' p (s.write n b).1 ∧ Mv w X w' X' := by
  have h' := h
  obtain ⟨hok, bn, bk, A, c, h⟩ := h
  obtain ⟨c0, c1, cc2, c3, c4, c5, c6⟩ := h.cells
  have hsz : (⟨n.toArray⟩ : ByteArray).size = n.length := by simp [ByteArray.size]
  cases hd : s.dead with
  | true =>
    have e1 : s.write n b = (s, 15) := by simp [V.write, hd]
    rw [e1]
    rw [hd] at c6
    go_enter Try.func17, Try.ntmps17
    go_wp2
    go_ret
    exact ⟨rfl, X, h', Mv.rfl' _ _⟩
  | false =>
    rw [hd] at c6
    by_cases h0 : n = []
    · have e1 : s.write n b = (s, 12) := by simp [V.write, hd, h0]
      rw [e1]
      subst h0
      go_enter Try.func17, Try.ntmps17
      go_wp2
      go_ret
      exact ⟨rfl, X, h', Mv.rfl' _ _⟩
    · have hne : List.isEmpty n = false := by
        cases n with
        | nil => exact absurd rfl h0
        | cons x r => rfl
      by_cases h20 : 20 < n.length
      · have e1 : s.write n b = (s, 12) := by simp [V.write, hd, h20]
        rw [e1]
        have h20' : (20 : Int) < (n.length : Int) := by omega
        go_enter Try.func17, Try.ntmps17
        go_wp2
        go_ret
        exact ⟨rfl, X, h', Mv.rfl' _ _⟩
      · have h20' : ¬ (20 : Int) < (n.length : Int) := by omega
        obtain ⟨A1, m1, cc, hct, hrun⟩ := h.now.look hn
        obtain ⟨A1', m1', cc', e2, hlen, hle, hcm, hrd⟩ := id hct
        injection e2 with e2 e3 e4
        subst e2 e3 e4
        have hgu := get_le_used s.now n
        have husd := used_small hok hs.ops
        have hroom := hok.room
        unfold mostRoom at husd hroom
        have HU := Lib.hid (fun W hW => used_mem (w := W) (h.gr hW) hok (by omega))
        have hbl := h.now.lt
        rw [hlen] at hgu
        have hbn := hb.out
        have y0 := Lib.hid (And.intro c0 c3)
        have hrun := Lib.hid hrun
        clear c0 c1 cc2 c3 c4 c5 hct
        go_enter Try.func17, Try.ntmps17
        go_wp2_with fail
        refine Vc.wp_region_facts ⟨Gr, fun _ => Gr, fun _ W => Gr w W, []⟩ (by kernel_rfl) (by kernel_rfl) (fun _ _ _ h h' => h'.trans' h) (Gr.draw _) ?_
        repeat
          refine Vc.Walk.pure (v := ?_) (fun _ => Gr.rfl' _) rfl (by first | exact Vc.GuardYes.no rfl | exact Vc.GuardYes.yes rfl rfl) rfl rfl ?_ ?_
          rotate_left
          · intro _ W hI
            (clear hI)
            go_simp
            exact rfl
        refine Vc.Walk.call (.is (.int .i64 (s.now.used : Nat))) trivial (.no rfl) rfl rfl ?_ ?_
        · intro k W hI
          have hg := hI.g
          clear hI
          go_simp
          refine (HU.out W hg).mono ?_
          rintro e W' ⟨rfl, hg'⟩
          exact ⟨_, rfl, rfl, hg'⟩
        repeat
          refine Vc.Walk.pure (v := ?_) (fun _ => Gr.rfl' _) rfl (by first | exact Vc.GuardYes.no rfl | exact Vc.GuardYes.yes rfl rfl) rfl rfl ?_ ?_
          rotate_left
          · intro _ W hI
            (have q := hI.g; clear hI; have q0 := q.cell y0.out.1; have q3 := q.cell y0.out.2; have q1 := hrun.out W (q.block _ hbl); clear q)
            go_simp
            exact rfl
        intro W hW
        have hW : Gr w W := hW
        have hw1 : IntKind.i64.wrap ((s.now.used : Int) - (m1 : Int)) = (s.now.used : Int) - (m1 : Int) := by rw [IntKind.wrap_i64]; omega
        have hw2 : IntKind.i64.wrap ((s.now.used : Int) - (m1 : Int) + (n2 : Int)) = (s.now.used : Int) - (m1 : Int) + (n2 : Int) := by rw [IntKind.wrap_i64]; omega
        simp only [List.reverse_cons, List.reverse_nil, List.nil_append, List.cons_append, Vc.finish, Act.put, List.setIfInBounds_toArray, List.set_cons_zero, List.set_cons_succ]
        rw [hw1, hw2]
        clear hw1 hw2
        by_cases hf : s.room < s.now.used - m1 + n2
        · have e1 : s.write n b = (s, 14) := by
            simp only [V.write, hd, Bool.false_eq_true, if_false, h0, h20, or_self, hlen, hbn, if_pos hf]
          have hf' : (s.room : Int) < (s.now.used : Int) - (m1 : Int) + (n2 : Int) := by omega
          clear HU hrun
          go_wp2_with fail
          go_ret
          exact ⟨rfl, X, h'.gr hW, Mv.of_gr hW X⟩
        · have e1 : s.write n b = (s.done ⟨n, b, false⟩, deadNo (s.done ⟨n, b, false⟩).dead) := by
            simp only [V.write, hd, Bool.false_eq_true, if_false, h0, h20, or_self, hlen, hbn, if_neg hf]
          have hf' : ¬ (s.room : Int) < (s.now.used : Int) - (m1 : Int) + (n2 : Int) := by omega
          have HC := Lib.hid (cloneB_any A2 n2 c2 b W hbn (hr.gr hW) (by omega))
          have HD := Lib.hid (fun (W2 : World) (A' : Option Addr) (c' : Nat) (hg2 : Gr W W2) (ho : Own W2 W.heap.size 5 1 A' n2 c' (b.map bv)) =>
            (done_any (ch := ⟨n, b, false⟩) ((h.gr hW).with_new hg2 (fun g hg => ho.blk g hg)).1 hok hs (Cont.of_own ho (fun g hg => .inr hg)) (by simp only; omega) (by unfold mostRoom; simp only; omega)))
          unfold chV at HD
          clear HU hrun
          go_wp2_with (first
            | (go_at_call 36; (with_reducible refine HC.out.mono ?_); rintro e w2 ⟨A', c', rfl, ho, hg2⟩)
            | (go_at_call 35; (with_reducible refine (HD.out _ _ _ hg2 ho).mono ?_); rintro e w3 ⟨rfl, X', hX', hM'⟩))
          go_ret
          rw [e1]
          exact ⟨rfl, X', hX', (Mv.of_gr hW X).trans (((h.gr hW).with_new hg2 (fun g hg => ho.blk g hg)).2.trans hM')⟩
set_option maxHeartbeats 1000000 in
theorem flush_any (h : At w X p s) (hs : Sm s) :
    Calls Try.prog 18 #[.pointer (some ⟨p, 0, none⟩)] w fun e w' => e = .returned (.int .i64 s.flush.2) ∧ ∃ X', At w' X' p s.flush.1 ∧ Mv w X w' X' := by
  have h' := h
  obtain ⟨hok, bn, bk, A, c, h⟩ := h
  obtain ⟨c0, c1, cc2, c3, c4, c5, c6⟩ := h.cells
  have hok2 := ok_flush hok
  cases hd : s.dead with
  | true =>
    have e1 : s.flush = (s, 15) := by simp [V.flush, hd]
    rw [e1]
    rw [hd] at c6
    go_enter Try.func18, Try.ntmps18
    go_wp2
    go_ret
    exact ⟨rfl, X, h', Mv.rfl' _ _⟩
  | false =>
    rw [hd] at c6
    have HS := Lib.hid (step_any h hs)
    cases hsd : s.step.dead with
    | true =>
      have e1 : s.flush = (s.step, 15) := by simp [V.flush, hd, hsd]
      rw [e1]
      rw [hsd] at HS
      go_enter Try.func18, Try.ntmps18
      go_wp2_with (go_at_call 37; (with_reducible refine HS.out.mono ?_); rintro e w1 ⟨rfl, hm1, hg1⟩)
      go_ret
      exact ⟨rfl, X, ⟨ok_step hok, _, _, _, _, hm1⟩, Tr.of_grown hg1 (fun g e => by injection e with e; exact e ▸ h.xp), fun _ h => h, fun _ h => .inl h⟩
    | false =>
      have e1 : s.flush = ({ s.step with kept := s.now, since := [] }, 0) := by simp [V.flush, hd, hsd]
      rw [e1] at hok2 ⊢
      rw [hsd] at HS
      go_enter Try.func18, Try.ntmps18
      go_wp2_with (first
        | (go_at_call 37; (with_reducible refine HS.out.mono ?_); rintro e w1 ⟨rfl, hm1, hg1⟩
           have HC := Lib.hid (cloneM_any w1 hm1.now)
           have q0 := hm1.cells.1
           have f1 := hm1.frozen 1
           have f2 := hm1.frozen 2)
        | (go_at_call 38; (with_reducible refine HC.out.mono ?_); rintro e w2 ⟨rfl, hf2, hg2⟩
           have r1 := (hm1.gr hg2).frozen 1
           have r2 := (hm1.gr hg2).frozen 2
           obtain ⟨_, r3, r4, _⟩ := (hm1.gr hg2).cells))
      go_ret
      obtain ⟨hm2, hf3, hM2⟩ := hm1.cloned hg2 hf2
      have hm3 := hm2.set_kept hf3 (fun e => absurd (hm1.now.lt) (by omega)) (.inr rfl)
      have hm4 := hm3.set_since (SinceAt.nil _ _) (fun g hg => by cases hg)
      have hM1 : Mv w X w1 X := ⟨Tr.of_grown hg1 (fun g e => by injection e with e; exact e ▸ h.xp), fun _ h => h, fun _ h => .inl h⟩
      exact ⟨rfl, _, ⟨hok2, _, _, _, _, hm4⟩, ((hM1.trans hM2).own_set (.inl h.xp)).own_set (.inl h.xp)⟩
end
end Go.Proofs.Ytcfbkhgdlgnmgaa
set_option linter.unusedVariables false
set_option linter.unusedSimpArgs false
namespace Go.Proofs.Ytcfbkhgdlgnmgaa
open Go.RowKit Go.Maps Go.Sort
attribute [local go_sem] Vc.known_tmp Vc.known_const Vc.known_func Vc.known_global Vc.lk Vc.okUpon Vc.Fact.holds
theorem Rd.spot {w : World} {A : Option Addr} {xs : List Value} (h : Rd w A xs) (h0 : 0 < xs.length) : ∃ b off, A = some ⟨b, off, none⟩ ∧ ∀ j u, xs[j]? = some u → w.cell? ⟨b, off + j, none⟩ = some u := by
  obtain ⟨ad, rfl, hc⟩ := h 0 _ (List.getElem?_eq_getElem h0)
  have hs : ad.spot = none := by
    unfold Addr.add at hc
    simp only [if_pos] at hc
    unfold World.cell? at hc
    cases hp : ad.spot with
    | none => rfl
    | some s =>
      rw [hp] at hc
      split at hc <;> simp at hc
  obtain ⟨b, off, sp⟩ := ad
  simp only at hs
  subst hs
  refine ⟨b, off, rfl, fun j u hu => ?_⟩
  obtain ⟨ad', e, hc'⟩ := h j u hu
  injection e with e
  subst e
  rw [add_plain'] at hc'
  exact hc'
section
variable {X : Nat → Prop} {w w' : World} {p bn bk c : Nat} {A : Option Addr} {s : V}
def V.at_ (s : V) (ks : List Int) (i : Nat) : V := { s with kept := crashF s.kept (s.since.take i) (ks.take i) }
end
end Go.Proofs.Ytcfbkhgdlgnmgaa
set_option linter.unusedVariables false
set_option linter.unusedSimpArgs false
namespace Go.Proofs.Ytcfbkhgdlgnmgaa
open Go.RowKit Go.Maps Go.Sort
structure FlR where
  nm : Str
  q : Rw
def FlR.cells (f : FlR) : List Value := [encStr f.nm, .slice f.q.A f.q.n f.q.c]
def FlR.fl (f : FlR) : Fl := (f.nm, f.q.b)
structure FlS (w : World) (Z : Nat → Prop) (A : Option Addr) (rs : List FlR) : Prop where
  rd : Rd w A (rs.flatMap FlR.cells)
  zb : 0 < rs.length → ∀ ad, A = some ad → Z ad.block
  ok : ∀ f ∈ rs, f.q.Ok w ∧ f.nm.length ≤ maxLen ∧ (0 < f.q.n → ∀ ad, f.q.A = some ad → Z ad.block)
theorem cmf_len : ∀ l : List FlR, (l.flatMap FlR.cells).length = l.length * 2
  | [] => rfl
  | x :: r => by simp [List.flatMap_cons, FlR.cells, cmf_len r]; omega
theorem cmf_get : ∀ (l : List FlR) {i j : Nat} (h : i < l.length), j < 2 → (l.flatMap FlR.cells)[i * 2 + j]? = (l[i].cells)[j]?
  | x :: r, 0, j, h, hj => by
    rw [List.flatMap_cons, List.getElem?_append_left (by simp [FlR.cells]; omega)]
    simp
  | x :: r, i + 1, j, h, hj => by
    rw [List.flatMap_cons, List.getElem?_append_right (by simp [FlR.cells]; omega), show (i + 1) * 2 + j - (x.cells).length = i * 2 + j from by simp [FlR.cells]; omega]
    exact cmf_get r (by simpa using h) hj
section
variable {X Z : Nat → Prop} {w w' : World} {A : Option Addr} {rs : List FlR}
theorem FlS.at_ (h : FlS w Z A rs) {i : Nat} (hi : i < rs.length) : ∃ g off, A = some ⟨g, off, none⟩ ∧ w.cell? ⟨g, off + i * 2, none⟩ = some (encStr rs[i].nm) ∧ w.cell? ⟨g, off + i * 2 + 1, none⟩ = some (.slice rs[i].q.A rs[i].q.n rs[i].q.c) := by
  obtain ⟨g, off, rfl, hg⟩ := h.rd.spot (by rw [cmf_len]; omega)
  exact ⟨g, off, rfl, hg _ _ (cmf_get rs (j := 0) hi (by omega)), hg _ _ (cmf_get rs (j := 1) hi (by omega))⟩
theorem Tr.rd' {xs : List Value} (h : Tr X w w') (hr : Rd w A xs) (hX : 0 < xs.length → ∀ ad, A = some ad → ¬ X ad.block) : Rd w' A xs := by
  cases xs with
  | nil => exact Rd.nil _ _
  | cons x xs => exact h.rd hr (hX (by simp))
theorem Rw.Ok.tr {q : Rw} (h : q.Ok w) (t : Tr X w w') (hX : 0 < q.n → ∀ ad, q.A = some ad → ¬ X ad.block) : q.Ok w' :=
  ⟨h.len, t.rd' h.rd (fun h0 => hX (by rw [List.length_map] at h0; have := h.len.out; omega)), h.le, h.lec⟩
theorem FlS.tr (h : FlS w Z A rs) (t : Tr X w w') (hd : ∀ i, Z i → ¬ X i) : FlS w' Z A rs :=
  ⟨t.rd' h.rd (fun h0 ad e => hd _ (h.zb (by rw [cmf_len] at h0; omega) ad e)), h.zb, fun f hf => ⟨(h.ok f hf).1.tr t (fun h0 ad e => hd _ ((h.ok f hf).2.2 h0 ad e)), (h.ok f hf).2⟩⟩
theorem FlS.gr (h : FlS w Z A rs) (hg : Gr w w') : FlS w' Z A rs := h.tr (Tr.of_gr (X := fun _ => False) hg) (fun _ _ h => h)
theorem FlS.take (h : FlS w Z A rs) (k : Nat) : FlS w Z A (rs.take k) := by
  refine ⟨?_, fun h0 => h.zb (by rw [List.length_take] at h0; omega), fun f hf => h.ok f (List.mem_of_mem_take hf)⟩
  have e : (rs.take k).flatMap FlR.cells = (rs.flatMap FlR.cells).take (k * 2) := by
    have h1 : rs = rs.take k ++ rs.drop k := (List.take_append_drop k rs).symm
    by_cases hk : k ≤ rs.length
    · have h2 := congrArg (List.flatMap FlR.cells) h1
      rw [List.flatMap_append] at h2
      rw [h2, List.take_left' (by rw [cmf_len, List.length_take]; omega)]
    · rw [List.take_of_length_le (by omega), List.take_of_length_le (by rw [cmf_len]; omega)]
  rw [e]
  exact h.rd.take _
theorem FlS.mono {Z' : Nat → Prop} (h : FlS w Z A rs) (hz : ∀ i, Z i → Z' i) : FlS w Z' A rs :=
  ⟨h.rd, fun h0 ad e => hz _ (h.zb h0 ad e), fun f hf => ⟨(h.ok f hf).1, (h.ok f hf).2.1, fun h0 ad e => hz _ ((h.ok f hf).2.2 h0 ad e)⟩⟩
set_option maxHeartbeats 1000000 in
theorem twice_any (h : FlS w Z A rs) (x : Str) (c : Nat) (hl : rs.length ≤ 1000000) :
    Calls Try.prog 66 #[.slice A rs.length c, encStr x] w fun e w' => e = .returned (.bool (decide (x ∈ rs.map (·.nm)))) ∧ Gr w w' := by
  generalize hn : rs.length = n at hl ⊢
  go_enter Try.func66, Try.ntmps66
  go_wp2_with fail
  go_loopw [9] (fun i wr => ∃ j : Nat, j ≤ n ∧ i = .int .i64 j ∧ Hid (∀ i (h : i < rs.length), i < j → rs[i].nm ≠ x) ∧ Gr w wr) (fun i _ => n - (intOf i).toNat)
  case atStart => exact ⟨0, by omega, rfl, Lib.hid (fun i h h' => absurd h' (by omega)), Gr.rfl' _⟩
  case round =>
    obtain ⟨j, hj, rfl, hlo, hgr⟩ := hrel
    by_cases hlt : j < n
    · have hjl : j < rs.length := by omega
      obtain ⟨g, off, rfl, x0, x1⟩ := (h.gr hgr).at_ hjl
      by_cases he : rs[j].nm = x
      · have hg := Lib.hid (show decide (x ∈ rs.map (·.nm)) = true from decide_eq_true (List.mem_map.2 ⟨_, List.getElem_mem hjl, he⟩))
        rw [he] at x0
        go_wp2
        go_ret
        rw [hg.out]
        exact ⟨rfl, hgr.trans' (Gr.alloc1 _ _)⟩
      · have hf2 : (rs[j].nm == x) = false := by simpa using he
        have hlo2 := Lib.hid (show ∀ i (h : i < rs.length), i < j + 1 → rs[i].nm ≠ x from fun i h h' => by
          by_cases e : i = j
          · subst e; exact he
          · exact hlo.out i h (by omega))
        clear he
        generalize rs[j].nm = y at *
        go_wp2
        go_roundw
        case rel => exact ⟨j + 1, by omega, by go_num, hlo2, hgr.trans' (Gr.alloc1 _ _)⟩
        case measure => simp [intOf]; omega
    · obtain rfl : j = n := by omega
      have hg := Lib.hid (show decide (x ∈ rs.map (·.nm)) = false from decide_eq_false (fun hm => by
        obtain ⟨f, hf, e⟩ := List.mem_map.1 hm
        obtain ⟨i, hi, rfl⟩ := List.getElem_of_mem hf
        exact hlo.out i hi (by omega) e))
      go_wp2
      go_ret
      rw [hg.out]
      exact ⟨rfl, hgr⟩
end
end Go.Proofs.Ytcfbkhgdlgnmgaa
set_option linter.unusedVariables false
set_option linter.unusedSimpArgs false
namespace Go.Proofs.Ytcfbkhgdlgnmgaa
open Go.RowKit Go.Maps Go.Sort
structure FlO (w : World) (Zc : Nat → Prop) (B : Nat) (A : Option Addr) (n c : Nat) (rs : List FlR) : Prop where
  own : Own w B 31 2 A n c (rs.flatMap FlR.cells)
  ok : ∀ f ∈ rs, f.q.Ok w ∧ f.nm.length ≤ maxLen ∧ (0 < f.q.n → ∀ ad, f.q.A = some ad → Zc ad.block ∧ blkOf A ≠ some ad.block ∧ ad.block < w.heap.size)
theorem info_cfile : (Try.prog.info? 31).map (fun i => (i.zero, i.size, i.bytes)) = some (some (.agg #[.string ByteArray.empty, .slice none 0 0]), 2, 40) := by kernel_rfl
theorem Gr.grownBk {w w' w'' : World} {row : Option Nat} (h : Gr w w') (k : w'.grownBy w'' row) (hr : ∀ g, row = some g → w.heap.size ≤ g) : Gr w w'' :=
  ⟨k.os.trans h.os, k.tape.trans h.tape, k.output.trans h.output, Nat.le_trans h.size k.size, fun i hi => (k.block i (Nat.lt_of_lt_of_le hi h.size) (fun e => by have := hr i e.symm; omega)).trans (h.block i hi)⟩
theorem conv_new (w : World) (src dst e : TypeId) (b : Str) (hl : b.length ≤ maxLen) {P : Program} (hs : P.underlying src = some .string) (hd : P.underlying dst = some (.slice e)) (he : P.underlying e = some (.int .u8)) :
    ∃ c w', (convert src dst (.string ⟨b.toArray⟩)).run P w = .ok (.slice (some ⟨w.heap.size, 0, none⟩) b.length c) w' ∧ Gr w w' ∧ Rd w' (some ⟨w.heap.size, 0, none⟩) (b.map bv) ∧ b.length ≤ c ∧ c ≤ maxLen ∧ w'.heap.size = w.heap.size + 1 := by
  have hz : (⟨b.toArray⟩ : ByteArray).size = b.length := by simp [ByteArray.size]
  have hr := Lib.run_convert_string_bytes (P := P) w src dst e ⟨b.toArray⟩ hs hd he
  rw [hz] at hr
  refine ⟨_, _, hr, gr_bytes _ _ _, ?_, grownCap_ge _ _ _ _, grownCap_le_maxLen _ _ _ _ hl, Lib.bytesWorld_size _ _ _⟩
  simpa using rd_bytes w e ⟨b.toArray⟩
section
variable {X Zc : Nat → Prop} {w w' : World} {B n c n' c' : Nat} {A A' : Option Addr} {rs : List FlR}
theorem FlO.nil (w : World) (Zc : Nat → Prop) (B : Nat) : FlO w Zc B none 0 0 [] := ⟨Own.nil _ _ _ _, fun f hf => by cases hf⟩
theorem FlO.len (h : FlO w Zc B A n c rs) : rs.length = n := by have := h.own.1; rw [cmf_len] at this; omega
theorem Rw.Ok.gr {q : Rw} (h : q.Ok w) (hg : Gr w w') : q.Ok w' := ⟨h.len, h.rd.gr hg, h.le, h.lec⟩
theorem FlO.gr (h : FlO w Zc B A n c rs) (hg : Gr w w') : FlO w' Zc B A n c rs :=
  ⟨h.own.gr hg, fun f hf => ⟨(h.ok f hf).1.gr hg, (h.ok f hf).2.1, fun h0 ad e => by
    obtain ⟨h1, h2, h3⟩ := (h.ok f hf).2.2 h0 ad e
    exact ⟨h1, h2, Nat.lt_of_lt_of_le h3 hg.size⟩⟩⟩
theorem Rd.grown {row : Option Nat} {xs : List Value} (hr : Rd w A xs) (hg : w.grownBy w' row) (hne : 0 < xs.length → ∀ ad, A = some ad → row ≠ some ad.block) : Rd w' A xs := by
  intro j u hu
  obtain ⟨ad, rfl, hc⟩ := hr j u hu
  refine ⟨ad, rfl, ?_⟩
  have hb : (ad.add j).block = ad.block := block_of_add ad j
  have hlt := World.block_lt_of_cell? w _ hc
  have := hg.block _ hlt (by
    rw [hb]
    intro e
    exact hne (by have := (List.getElem?_eq_some_iff.1 hu).1; omega) ad rfl (by simpa using e.symm))
  rw [← hc]
  unfold World.cell?
  rw [this]
theorem Rw.Ok.grown {q : Rw} {row : Option Nat} (h : q.Ok w) (hg : w.grownBy w' row) (hne : 0 < q.n → ∀ ad, q.A = some ad → row ≠ some ad.block) : q.Ok w' :=
  ⟨h.len, h.rd.grown hg (fun h0 => hne (by rw [List.length_map] at h0; have := h.len.out; omega)), h.le, h.lec⟩
theorem FlO.keep {row : Option Nat} (h : FlO w Zc B A n c rs) (hg : w.grownBy w' row) (h1 : ∀ g, blkOf A = some g → row ≠ some g) (h2 : ∀ i, Zc i → row ≠ some i) : FlO w' Zc B A n c rs :=
  ⟨h.own.keep hg h1, fun f hf => ⟨(h.ok f hf).1.grown hg (fun h0 ad e => h2 _ ((h.ok f hf).2.2 h0 ad e).1), (h.ok f hf).2.1, fun h0 ad e => by
    obtain ⟨h1, h2, h3⟩ := (h.ok f hf).2.2 h0 ad e
    exact ⟨h1, h2, Nat.lt_of_lt_of_le h3 hg.size⟩⟩⟩
theorem FlO.push (h : FlO w Zc B A n c rs) {f : FlR} (hq : f.q.Ok w) (hn : f.nm.length ≤ maxLen) (hb : 0 < f.q.n → ∀ ad, f.q.A = some ad → Zc ad.block ∧ blkOf A ≠ some ad.block ∧ ad.block < w.heap.size)
    (ho : Own w' B 31 2 A' n' c' (rs.flatMap FlR.cells ++ f.cells)) (hk : AppK w w' A A' (rs.flatMap FlR.cells)) : FlO w' Zc B A' n' c' (rs ++ [f]) := by
  have hgw := hk.grown
  have key : ∀ f' : FlR, f'.q.Ok w → (0 < f'.q.n → ∀ ad, f'.q.A = some ad → Zc ad.block ∧ blkOf A ≠ some ad.block ∧ ad.block < w.heap.size) →
      f'.q.Ok w' ∧ (0 < f'.q.n → ∀ ad, f'.q.A = some ad → Zc ad.block ∧ blkOf A' ≠ some ad.block ∧ ad.block < w'.heap.size) := fun f' h1 h2 => by
    refine ⟨h1.grown hgw (fun h0 ad e => (h2 h0 ad e).2.1), fun h0 ad e => ?_⟩
    obtain ⟨k1, k2, k3⟩ := h2 h0 ad e
    refine ⟨k1, ?_, Nat.lt_of_lt_of_le k3 hgw.size⟩
    rcases hk.2.1 with ⟨e1, _⟩ | ⟨e1, _⟩
    · rw [e1]; exact k2
    · rw [e1]
      intro e2
      injection e2 with e2
      simp only at e2
      omega
  refine ⟨by rw [List.flatMap_append]; simpa using ho, fun f' hf' => ?_⟩
  rcases List.mem_append.1 hf' with hf' | hf'
  · have h1 := h.ok f' hf'
    obtain ⟨k1, k2⟩ := key f' h1.1 h1.2.2
    exact ⟨k1, h1.2.1, k2⟩
  · obtain rfl := List.mem_singleton.1 hf'
    obtain ⟨k1, k2⟩ := key f' hq hb
    exact ⟨k1, hn, k2⟩
theorem FlO.fls (h : FlO w Zc B A n c rs) : FlS w (fun i => (Zc i ∨ blkOf A = some i) ∧ i < w.heap.size) A rs :=
  ⟨h.own.rd, fun h0 ad e => by
    subst e
    exact ⟨.inr rfl, (h.own.blk _ rfl).2⟩, fun f hf => ⟨(h.ok f hf).1, (h.ok f hf).2.1, fun h0 ad e => ⟨.inl ((h.ok f hf).2.2 h0 ad e).1, ((h.ok f hf).2.2 h0 ad e).2.2⟩⟩⟩
end
end Go.Proofs.Ytcfbkhgdlgnmgaa
set_option linter.unusedVariables false
set_option linter.unusedSimpArgs false
set_option maxRecDepth 100000
namespace Go.Proofs.Ytcfbkhgdlgnmgaa
open Go.RowKit Go.Maps Go.Sort
attribute [local go_sem] Vc.known_tmp Vc.known_const Vc.known_func Vc.known_global Vc.lk Vc.okUpon Vc.Fact.holds
section
variable {Z : Nat → Prop} {w : World} {A : Option Addr} {rs : List FlR}
theorem mayGo_step {rs : List FlR} {j : Nat} (hj : j < rs.length) : mayGo ((rs.take j).map (·.nm)) ((rs.drop j).map FlR.fl) =
    if nameBad rs[j].nm = true then 12 else if rs[j].nm ∈ (rs.take j).map (·.nm) then 7 else if 8000 < rs[j].q.b.length then 5 else mayGo ((rs.take (j + 1)).map (·.nm)) ((rs.drop (j + 1)).map FlR.fl) := by
  rw [List.drop_eq_getElem_cons hj, List.map_cons]
  show mayGo _ ((rs[j].nm, rs[j].q.b) :: _) = _
  rw [mayGo, List.take_succ_eq_append_getElem hj, List.map_append]
  rfl
set_option maxHeartbeats 4000000 in
theorem may_any (h : FlS w Z A rs) (c : Nat) (hl : rs.length ≤ 255) (hc : rs.length ≤ c) (hb : ∀ f ∈ rs, f.q.n ≤ 1000000) :
    Calls Try.prog 40 #[.slice A rs.length c] w fun e w' => e = .returned (.int .i64 (mayM (rs.map FlR.fl))) ∧ Gr w w' := by
  obtain ⟨res, hres⟩ : ∃ r, mayM (rs.map FlR.fl) = r := ⟨_, rfl⟩
  rw [hres]
  have hres : (if rs.length < 1 ∨ 8 < rs.length then 1 else mayGo [] (rs.map FlR.fl)) = res := by rw [← hres]; unfold mayM; rw [List.length_map]
  have HRES := Lib.hid hres
  clear hres
  generalize hn : rs.length = n at hl hc HRES ⊢
  by_cases h1 : n < 1
  · have e := HRES.out
    rw [if_pos (.inl h1)] at e
    subst e
    have h1' : (n : Int) < 1 := by omega
    go_enter Try.func40, Try.ntmps40
    go_wp2
    go_ret
    exact ⟨rfl, Gr.rfl' _⟩
  by_cases h8 : 8 < n
  · have e := HRES.out
    rw [if_pos (.inr h8)] at e
    subst e
    have h1' : ¬ (n : Int) < 1 := by omega
    have h8' : (8 : Int) < n := by omega
    go_enter Try.func40, Try.ntmps40
    go_wp2
    go_ret
    exact ⟨rfl, Gr.rfl' _⟩
  have e := HRES.out
  rw [if_neg (by omega)] at e
  have HRE := Lib.hid e
  clear e HRES
  have h1' : ¬ (n : Int) < 1 := by omega
  have h8' : ¬ (8 : Int) < n := by omega
  go_enter Try.func40, Try.ntmps40
  go_wp2_with fail
  go_loopw [15] (fun i wr => ∃ j : Nat, j ≤ n ∧ i = .int .i64 j ∧ Hid (mayGo ((rs.take j).map (·.nm)) ((rs.drop j).map FlR.fl) = res) ∧ Gr w wr) (fun i _ => n - (intOf i).toNat)
  case atStart => exact ⟨0, by omega, rfl, Lib.hid HRE.out, Gr.rfl' _⟩
  case round =>
    obtain ⟨j, hj, rfl, hgo, hg⟩ := hrel
    by_cases hlt : j < n
    · have hjl : j < rs.length := by omega
      obtain ⟨g, off, rfl, x0, x1⟩ := (h.gr hg).at_ hjl
      have hs := hgo.out
      rw [mayGo_step hjl] at hs
      have hfk := h.ok _ (List.getElem_mem hjl)
      have hqb := hfk.1.len.out
      have hnl := hfk.2.1
      have hqn := hb _ (List.getElem_mem hjl)
      have HT := Lib.hid (fun W (hgW : Gr w W) => show Calls Try.prog 66 #[.slice (some ⟨g, off, none⟩) j c, encStr rs[j].nm] W fun e w' => e = .returned (.bool (decide (rs[j].nm ∈ (rs.take j).map (·.nm)))) ∧ Gr W w' from by
        have := twice_any ((h.gr hgW).take j) rs[j].nm c (by rw [List.length_take]; omega)
        rwa [show (rs.take j).length = j from by rw [List.length_take]; omega] at this)
      rw [hqb] at hs
      generalize rs[j].nm = nm at *
      generalize rs[j].q.n = qn at *
      generalize rs[j].q.A = qA at *
      generalize rs[j].q.c = qc at *
      have hsz : (⟨nm.toArray⟩ : ByteArray).size = nm.length := by simp [ByteArray.size]
      unfold maxLen at hnl
      clear hfk hqb hgo
      by_cases hnb : nameBad nm = true
      · rw [if_pos hnb] at hs
        subst hs
        unfold nameBad at hnb
        have hnb := of_decide_eq_true hnb
        by_cases b1 : nm = []
        · subst b1
          go_wp2_with fail
          go_ret
          exact ⟨rfl, hg.trans' (Gr.alloc1 _ _)⟩
        have c1 : List.isEmpty nm = false := by cases nm with | nil => exact absurd rfl b1 | cons _ _ => rfl
        by_cases b2 : 20 < nm.length
        · have c2 : (20 : Int) < (nm.length : Int) := by omega
          go_wp2_with fail
          go_ret
          exact ⟨rfl, hg.trans' (Gr.alloc1 _ _)⟩
        have c2 : ¬ (20 : Int) < (nm.length : Int) := by omega
        by_cases b3 : nm = jn
        · have c3 : (nm == [106, 111, 117, 114, 110, 97, 108]) = true := by simpa [jn] using b3
          go_wp2_with fail
          go_ret
          exact ⟨rfl, hg.trans' (Gr.alloc1 _ _)⟩
        have c3 : (nm == [106, 111, 117, 114, 110, 97, 108]) = false := by simpa [jn] using b3
        have b4 : nm = mk := by
          rcases hnb with h | h | h | h
          · exact absurd h b1
          · omega
          · exact absurd h b3
          · exact h
        have c4 : (nm == [109, 97, 114, 107]) = true := by simpa [mk] using b4
        clear b1 b3 b4 hnb
        go_wp2_with fail
        go_ret
        exact ⟨rfl, hg.trans' (Gr.alloc1 _ _)⟩
      · rw [if_neg hnb] at hs
        obtain ⟨b1, b2, b3, b4⟩ := nameBad_len (by simpa using hnb)
        have c1 : List.isEmpty nm = false := by cases nm with | nil => exact absurd rfl b1 | cons _ _ => rfl
        have c2 : ¬ (20 : Int) < (nm.length : Int) := by omega
        have c3 : (nm == [106, 111, 117, 114, 110, 97, 108]) = false := by simpa [jn] using b3
        have c4 : (nm == [109, 97, 114, 107]) = false := by simpa [mk] using b4
        have HS := Lib.hid hs
        obtain ⟨bb, hbb⟩ : ∃ b, decide (nm ∈ (rs.take j).map (·.nm)) = b := ⟨_, rfl⟩
        rw [hbb] at HT
        have HBB := Lib.hid hbb
        clear hs b1 b3 b4 hnb hbb
        go_wp2_with fail
        have hrow : Row (wr.alloc (.cells #[.string ⟨nm.toArray⟩, .slice qA qn qc] 31)) wr.heap.size 31 [encStr nm, .slice qA qn qc] := Row.new wr 31 [encStr nm, .slice qA qn qc]
        have hg1 : Gr wr (wr.alloc (.cells #[.string ⟨nm.toArray⟩, .slice qA qn qc] 31)) := Gr.alloc1 _ _
        generalize wr.alloc (.cells #[.string ⟨nm.toArray⟩, .slice qA qn qc] 31) = w1 at *
        generalize wr.heap.size = gb at *
        have hc0 := Lib.hid (show w1.cell? ⟨gb, 0, none⟩ = some (encStr nm) from hrow.cell 0)
        have hc1 := Lib.hid (show w1.cell? ⟨gb, 1, none⟩ = some (.slice qA qn qc) from hrow.cell 1)
        have hgw := Lib.hid (hg.trans' hg1)
        clear hrow hg1 x0 x1 hg
        refine Vc.wp_region_facts ⟨Gr, fun _ => Gr, fun _ W => Gr w1 W, []⟩ (by kernel_rfl) (by kernel_rfl) (fun _ _ _ h h' => h'.trans' h) (Gr.draw _) ?_
        repeat
          refine Vc.Walk.pure (v := ?_) (fun _ => Gr.rfl' _) rfl (by first | exact Vc.GuardYes.no rfl | exact Vc.GuardYes.yes rfl rfl) rfl rfl ?_ ?_
          rotate_left
          · intro _ W hI
            (have y0 := hI.g.cell hc0.out; clear hI)
            go_simp
            exact rfl
        refine Vc.Walk.pure (v := ?_) (fun _ => Gr.rfl' _) rfl (by first | exact Vc.GuardYes.no rfl | exact Vc.GuardYes.yes rfl rfl) rfl rfl ?_ ?_
        rotate_left
        · intro _ W hI
          go_simp
          rw [if_pos (by omega)]
        repeat
          refine Vc.Walk.pure (v := ?_) (fun _ => Gr.rfl' _) rfl (by first | exact Vc.GuardYes.no rfl | exact Vc.GuardYes.yes rfl rfl) rfl rfl ?_ ?_
          rotate_left
          · intro _ W hI
            (have y0 := hI.g.cell hc0.out; clear hI)
            go_simp
            exact rfl
        refine Vc.Walk.any (.is (.bool bb)) trivial (by first | exact .no rfl | exact .yes rfl rfl) ?_ ?_
        · intro ρ k W hI hf
          obtain ⟨hρ0, hρ1, hρ2, _⟩ := hf
          have hg := hI.g
          have e0 : ρ (.func 66) = .func (.func 66) #[] #[] := hρ0
          have e1 : ρ (.tmp 43) = .slice (some ⟨g, off, none⟩) j c := hρ1
          have e2 : ρ (.tmp 45) = encStr nm := hρ2
          clear hI hρ0 hρ1 hρ2
          go_simp
          refine (HT.out _ (hgw.out.trans' hg)).mono ?_
          rintro e W' ⟨rfl, hg'⟩
          exact ⟨_, rfl, rfl, hg'⟩
        repeat
          refine Vc.Walk.pure (v := ?_) (fun _ => Gr.rfl' _) rfl (by first | exact Vc.GuardYes.no rfl | exact Vc.GuardYes.yes rfl rfl) rfl rfl ?_ ?_
          rotate_left
          · intro _ W hI
            (have y0 := hI.g.cell hc0.out; clear hI)
            go_simp
            exact rfl
        intro W hW
        have hW : Gr w1 W := hW
        simp only [List.reverse_cons, List.reverse_nil, List.nil_append, List.cons_append, Vc.finish, Act.put, List.setIfInBounds_toArray, List.set_cons_zero, List.set_cons_succ]
        have hs := HS.out
        have hin := HBB.out
        clear HBB HS
        cases bb with
        | true =>
          rw [if_pos (of_decide_eq_true hin)] at hs
          subst hs
          go_wp2_with fail
          go_ret
          exact ⟨rfl, hgw.out.trans' hW⟩
        | false =>
          rw [if_neg (of_decide_eq_false hin)] at hs
          have y1 := hW.cell hc1.out
          clear hin
          by_cases h80 : 8000 < qn
          · rw [if_pos h80] at hs
            subst hs
            have h80' : (8000 : Int) < (qn : Int) := by omega
            go_wp2_with fail
            go_ret
            exact ⟨rfl, hgw.out.trans' hW⟩
          · rw [if_neg h80] at hs
            have h80' : ¬ (8000 : Int) < (qn : Int) := by omega
            have HS2 := Lib.hid hs
            clear hs
            go_wp2_with fail
            go_roundw
            case rel => exact ⟨j + 1, by omega, by go_num, HS2, hgw.out.trans' hW⟩
            case measure => simp [intOf]; omega
    · obtain rfl : j = n := by omega
      have e := hgo.out
      rw [List.drop_of_length_le (by omega)] at e
      have e : (0 : Int) = res := e
      subst e
      go_wp2
      go_ret
      exact ⟨rfl, hg⟩
end
end Go.Proofs.Ytcfbkhgdlgnmgaa
set_option linter.unusedVariables false
set_option linter.unusedSimpArgs false
set_option maxRecDepth 100000
namespace Go.Proofs.Ytcfbkhgdlgnmgaa
open Go.RowKit Go.Maps Go.Sort
attribute [local go_sem] Vc.known_tmp Vc.known_const Vc.known_func Vc.known_global Vc.lk Vc.okUpon Vc.Fact.holds
theorem st_gr {Φ : Vc.Frames} {F : Value → World → Prop} (hL : ∀ w w', Φ.Le w w' → Gr w w') (hC : ∀ k w w', Φ.LeC k w w' → Gr w w') (h : ∀ {v w w'}, Gr w w' → F v w → F v w') : (Vc.Fact.fits (Vc.All F)).stable Φ :=
  Vc.All.stable (fun _ _ _ hl hf => h (hL _ _ hl) hf) (fun _ _ _ _ _ hl hf => h (hC _ _ _ hl) hf)
def BsV (bs : Str) (v : Value) (w : World) : Prop := ∃ A n c, v = .slice A n c ∧ Hid (bs.length = n) ∧ Rd w A (bs.map bv)
theorem BsV.gr {bs : Str} {v : Value} {w w' : World} (hg : Gr w w') (h : BsV bs v w) : BsV bs v w' := by
  obtain ⟨A, n, c, e, hn, hr⟩ := h
  exact ⟨A, n, c, e, hn, hr.gr hg⟩
theorem BsV.of {w w' : World} {bs : Str} {e : Ending} (h : Cd.FreshB w bs e w') : ∃ v, e = .returned v ∧ BsV bs v w' ∧ Gr w w' := by
  obtain ⟨g, n, rfl, hn, hlt, hr, hg⟩ := h
  exact ⟨_, rfl, ⟨_, _, _, rfl, hn, Rd.of_row' hr⟩, hg⟩
def bytesTo (N : Nat) (l : List Fl) : Str := u8' N :: l.flatMap fun f => textB f.1 ++ textB f.2
where u8' (n : Nat) : UInt8 := Cd.u8 (n : Int)
theorem bytesTo_all (l : List Fl) : bytesTo l.length l = bytesM l := rfl
theorem bytesTo_snoc (N : Nat) (l : List Fl) (f : Fl) : bytesTo N (l ++ [f]) = (bytesTo N l ++ textB f.1) ++ textB f.2 := by
  unfold bytesTo
  rw [List.flatMap_append, List.flatMap_cons, List.flatMap_nil, List.append_nil, List.cons_append, List.cons_append, List.append_assoc]
theorem textB_le (s : Str) : (textB s).length ≤ 65537 := by
  unfold textB
  rw [List.length_append, le_length, List.length_take]
  omega
theorem bytesTo_le (N : Nat) (l : List Fl) : (bytesTo N l).length ≤ 1 + l.length * 131074 := by
  unfold bytesTo
  rw [List.length_cons]
  have : ∀ l : List Fl, (l.flatMap fun f => textB f.1 ++ textB f.2).length ≤ l.length * 131074 := fun l => by
    induction l with
    | nil => simp
    | cons f l ih =>
      have h1 := textB_le f.1
      have h2 := textB_le f.2
      rw [List.flatMap_cons, List.length_append, List.length_append, List.length_cons, Nat.succ_mul]
      omega
  have := this l
  omega
theorem text_is (bs : Str) (s : Str) : bs ++ le (Cd.cutS ⟨s.toArray⟩).length 2 ++ Cd.cutS ⟨s.toArray⟩ = bs ++ textB s := by
  have h1 : Cd.cutS ⟨s.toArray⟩ = s.take 65535 := by simp [Cd.cutS]
  rw [h1, List.append_assoc]
  unfold textB
  rw [List.length_take, Nat.min_comm]
theorem ctext_any (A : Option Addr) (n c : Nat) (bs s : Str) (w : World) (hn : Hid (bs.length = n)) (hx : Rd w A (bs.map bv)) (hl : n ≤ 140737488285000) (hs : s.length ≤ maxLen) :
    Calls Try.prog 65 #[.slice A n c, .string ⟨s.toArray⟩] w fun e w' => ∃ v, e = .returned v ∧ BsV (bs ++ textB s) v w' ∧ Gr w w' := by
  refine (Cd.wText_any A n c bs ⟨s.toArray⟩ w hn hx hl (by simpa [ByteArray.size] using hs)).mono fun e w' h => ?_
  rw [text_is] at h
  exact BsV.of h
section
variable {Z : Nat → Prop} {w : World} {A : Option Addr} {rs : List FlR}
set_option maxHeartbeats 4000000 in
theorem bytes_any (h : FlS w Z A rs) (c : Nat) (hl : rs.length ≤ 255) (hb : ∀ f ∈ rs, f.q.n ≤ 1000000) :
    Calls Try.prog 39 #[.slice A rs.length c] w fun e w' => ∃ v, e = .returned v ∧ BsV (bytesM (rs.map FlR.fl)) v w' ∧ Gr w w' := by
  have hall := bytesTo_all (rs.map FlR.fl)
  rw [List.length_map] at hall
  rw [← hall]
  clear hall
  generalize hn : rs.length = n at hl ⊢
  have H0 := Lib.hid (show ∀ W, Calls Try.prog 64 #[.slice none 0 0, .int .i64 n] W fun e w' => ∃ v, e = .returned v ∧ BsV (bytesTo n []) v w' ∧ Gr W w' from fun W =>
    (Cd.wByte_any none 0 0 [] n W (Lib.hid rfl) (Rd.nil _ _) (by omega)).mono fun e w' h => BsV.of h)
  go_enter Try.func39, Try.ntmps39
  go_wp2_with (go_at_call 64; refine (H0.out _).mono ?_; rintro e w1 ⟨v1, rfl, hv1, hg1⟩)
  go_loopw [3, 11] (fun t i wr => ∃ j : Nat, j ≤ n ∧ i = .int .i64 j ∧ Hid (BsV (bytesTo n ((rs.take j).map FlR.fl)) t wr) ∧ Gr w wr) (fun _ i _ => n - (intOf i).toNat)
  case atStart => exact ⟨0, by omega, rfl, Lib.hid hv1, hg1⟩
  case round =>
    obtain ⟨j, hj, rfl, hv, hg⟩ := hrel
    by_cases hlt : j < n
    · have hjl : j < rs.length := by omega
      obtain ⟨g, off, rfl, x0, x1⟩ := (h.gr hg).at_ hjl
      have hsn := bytesTo_snoc n ((rs.take j).map FlR.fl) rs[j].fl
      rw [show (rs.take j).map FlR.fl ++ [rs[j].fl] = (rs.take (j + 1)).map FlR.fl from by rw [List.take_succ_eq_append_getElem hjl, List.map_append]; rfl] at hsn
      have hle := bytesTo_le n ((rs.take j).map FlR.fl)
      rw [List.length_map, List.length_take] at hle
      obtain ⟨A1, n1, c1, rfl, hn1, hr1⟩ := hv.out
      have hfk := h.ok _ (List.getElem_mem hjl)
      have hq := ((h.gr hg).ok _ (List.getElem_mem hjl)).1
      have hqb := hfk.1.len.out
      have hnl := hfk.2.1
      have hqn := hb _ (List.getElem_mem hjl)
      rw [show rs[j].fl.1 = rs[j].nm from rfl, show rs[j].fl.2 = rs[j].q.b from rfl] at hsn
      have hrq := hq.rd
      obtain ⟨B, hB⟩ : ∃ B, B = bytesTo n ((rs.take j).map FlR.fl) := ⟨_, rfl⟩
      rw [← hB] at hsn hle hn1 hr1
      have hsn := Lib.hid hsn
      clear hfk hq hv hB
      generalize rs[j].nm = nm at *
      generalize rs[j].q.b = qb at *
      generalize rs[j].q.n = qn at *
      generalize rs[j].q.A = qA at *
      generalize rs[j].q.c = qc at *
      have hB1 := hn1.out
      have hntl := textB_le nm
      go_wp2_with fail
      have hrow : Row (wr.alloc (.cells #[.string ⟨nm.toArray⟩, .slice qA qn qc] 31)) wr.heap.size 31 [encStr nm, .slice qA qn qc] := Row.new wr 31 [encStr nm, .slice qA qn qc]
      have hg1 : Gr wr (wr.alloc (.cells #[.string ⟨nm.toArray⟩, .slice qA qn qc] 31)) := Gr.alloc1 _ _
      generalize wr.alloc (.cells #[.string ⟨nm.toArray⟩, .slice qA qn qc] 31) = w1 at *
      generalize wr.heap.size = gb at *
      have hc0 := Lib.hid (show w1.cell? ⟨gb, 0, none⟩ = some (encStr nm) from hrow.cell 0)
      have hc1 := Lib.hid (show w1.cell? ⟨gb, 1, none⟩ = some (.slice qA qn qc) from hrow.cell 1)
      have hgw := Lib.hid (hg.trans' hg1)
      have HT1 := Lib.hid (fun W (hgW : Gr w1 W) => ctext_any A1 n1 c1 B nm W hn1 ((hr1.gr hg1).gr hgW) (by omega) hnl)
      have HQ := Lib.hid (fun W (hgW : Gr w1 W) => (hrq.gr hg1).gr hgW)
      have hqb2 := Lib.hid hqb
      have hql := Lib.hid (show qb.length ≤ maxLen from by unfold maxLen; omega)
      have hBn := Lib.hid (show (B ++ textB nm).length ≤ 140737488285000 from by rw [List.length_append]; omega)
      obtain ⟨B2, hB2⟩ : ∃ x, x = B ++ textB nm := ⟨_, rfl⟩
      obtain ⟨B3, hB3⟩ : ∃ x, x = B2 ++ textB qb := ⟨_, rfl⟩
      have hsn := Lib.hid (show bytesTo n ((rs.take (j + 1)).map FlR.fl) = B3 from by rw [hB3, hB2]; exact hsn.out)
      rw [← hB2] at HT1 hBn
      have HB3 := Lib.hid hB3
      clear hB2 hB3
      clear hrow hg1 x0 x1 hg hr1 hrq hqb hnl hle hB1 hntl
      refine Vc.wp_region_facts ⟨Gr, fun _ => Gr, fun _ W => Gr w1 W, []⟩ (by kernel_rfl) (by kernel_rfl) (fun _ _ _ h h' => h'.trans' h) (Gr.draw _) ?_
      repeat
        refine Vc.Walk.pure (v := ?_) (fun _ => Gr.rfl' _) rfl (by first | exact Vc.GuardYes.no rfl | exact Vc.GuardYes.yes rfl rfl) rfl rfl ?_ ?_
        rotate_left
        · intro _ W hI
          (have y0 := hI.g.cell hc0.out; clear hI)
          go_simp
          exact rfl
      refine Vc.Walk.any (.fits (Vc.All (BsV B2))) (st_gr (fun _ _ h => h) (fun _ _ _ h => h) BsV.gr) (by first | exact .no rfl | exact .yes rfl rfl) ?_ ?_
      · intro ρ k W hI hf
        obtain ⟨hρ0, hρ1, hρ2, _⟩ := hf
        have hg := hI.g
        have e0 : ρ (.func 65) = .func (.func 65) #[] #[] := hρ0
        have e1 : ρ (.tmp 15) = .slice A1 n1 c1 := hρ1
        have e2 : ρ (.tmp 17) = encStr nm := hρ2
        clear hI hρ0 hρ1 hρ2
        go_simp
        refine (HT1.out _ hg).mono ?_
        rintro e W' ⟨v, rfl, hv, hg'⟩
        exact ⟨_, rfl, hv, hg'⟩
      repeat
        refine Vc.Walk.pure (v := ?_) (fun _ => Gr.rfl' _) rfl (by first | exact Vc.GuardYes.no rfl | exact Vc.GuardYes.yes rfl rfl) rfl rfl ?_ ?_
        rotate_left
        · intro _ W hI
          (have y0 := hI.g.cell hc1.out; clear hI)
          go_simp
          exact rfl
      repeat
        refine Vc.Walk.pure (v := ?_) (fun _ => Gr.rfl' _) rfl (by first | exact Vc.GuardYes.no rfl | exact Vc.GuardYes.yes rfl rfl) rfl rfl ?_ ?_
        rotate_left
        · intro _ W hI
          (have hcv := run_str (P := Try.prog) (HQ.out _ hI.g) 29 9 5 qn qc hqb2.out.symm Try.underlying29 Try.underlying5 Try.underlying9; clear hI)
          go_simp
          exact rfl
      refine Vc.Walk.any (.fits (Vc.All (BsV B3))) (st_gr (fun _ _ h => h) (fun _ _ _ h => h) BsV.gr) (by first | exact .no rfl | exact .yes rfl rfl) ?_ ?_
      · intro ρ k W hI hf
        obtain ⟨hρ0, ⟨A2, n2, c2, hρ1, hn2, hr2⟩, hρ2, _⟩ := hf
        have hg := hI.g
        have e0 : ρ (.func 65) = .func (.func 65) #[] #[] := hρ0
        have e1 : ρ (.tmp 18) = .slice A2 n2 c2 := hρ1
        have e2 : ρ (.tmp 21) = .string ⟨qb.toArray⟩ := hρ2
        have HT2 := Lib.hid (HB3.out ▸ ctext_any A2 n2 c2 B2 qb W hn2 hr2 (by have h1 := hBn.out; have h2 := hn2.out; omega) hql.out)
        clear hI hρ0 hρ1 hρ2 hn2 hr2
        go_simp
        refine HT2.out.mono ?_
        rintro e W' ⟨v, rfl, hv, hg'⟩
        exact ⟨_, rfl, hv, hg'⟩
      refine Vc.Walk.any (.fits (Vc.All (BsV B3))) (st_gr (fun _ _ h => h) (fun _ _ _ h => h) BsV.gr) (.no rfl) ?_ ?_
      · intro ρ k W hI hf
        obtain ⟨⟨A', n', c', hρ, hh⟩, _⟩ := hf
        have hh := Lib.hid hh
        clear hI
        go_simp
        exact ⟨⟨_, _, _, rfl, hh.out⟩, Gr.rfl' _⟩
      intro W hW
      have hW : Gr w1 W := hW
      simp only [List.reverse_cons, List.reverse_nil, List.nil_append, List.cons_append, Vc.finish, Act.put, List.setIfInBounds_toArray, List.set_cons_zero, List.set_cons_succ]
      rintro u18 _ u22 _ u3 hv3
      have HV3 := Lib.hid (show BsV (bytesTo n ((rs.take (j + 1)).map FlR.fl)) u3 W from by rw [hsn.out]; exact hv3)
      clear hv3
      go_wp2_with fail
      go_roundw
      case rel => exact ⟨j + 1, by omega, by go_num, HV3, hgw.out.trans' hW⟩
      case measure => simp [intOf]; omega
    · obtain rfl : j = n := by omega
      have hv2 := hv.out
      rw [List.take_of_length_le (by omega)] at hv2
      have hv2 := Lib.hid hv2
      clear hv
      go_wp2
      go_ret
      exact ⟨_, rfl, hv2.out, hg⟩
end
end Go.Proofs.Ytcfbkhgdlgnmgaa
set_option linter.unusedVariables false
set_option linter.unusedSimpArgs false
namespace Go.Proofs.Ytcfbkhgdlgnmgaa
open Go.RowKit Go.Maps Go.Sort
theorem within_neg {a n : Int} (hn : 0 < n) (hn2 : n ≤ 4611686018427387904) (ha : a < 0) (h : a.tmod n < 0) : wrap64 (a.tmod n + n) = a % n := by
  have h1 := Int.emod_nonneg a (show n ≠ 0 by omega)
  have h2 := Int.emod_lt_of_pos a hn
  rw [Int.tmod_eq_emod] at h ⊢
  split at h
  · omega
  · rename_i hc
    rw [if_neg hc]
    unfold wrap64
    omega
theorem within_pos {a n : Int} (hn : 0 < n) (ha : a < 0) (h : ¬ a.tmod n < 0) : a.tmod n = a % n := by
  have h1 := Int.emod_nonneg a (show n ≠ 0 by omega)
  have h2 := Int.emod_lt_of_pos a hn
  rw [Int.tmod_eq_emod] at h ⊢
  split at h
  · rename_i hc
    rw [if_pos hc]
    omega
  · omega
theorem within1_any (a n : Int) (w : World) (h0 : -9223372036854775808 ≤ a) (h1 : a ≤ 9223372036854775807) (hn : 0 < n) (hn2 : n ≤ 4611686018427387904) :
    Calls Try.prog 15 #[.int .i64 a, .int .i64 n] w fun e w' => e = .returned (.int .i64 (a % n)) ∧ w = w' := by
  by_cases ha : 0 ≤ a
  · have hm := Int.emod_nonneg a (show n ≠ 0 by omega)
    go_enter Try.func15, Try.ntmps15
    go_wp2
    go_ret
    exact ⟨rfl, rfl⟩
  · have ha' : a < 0 := by omega
    clear ha
    by_cases hm : a.tmod n < 0
    · have H := Lib.hid (within_neg hn hn2 ha' hm)
      go_enter Try.func15, Try.ntmps15
      go_wp2
      go_ret
      exact ⟨by rw [← H.out]; rfl, rfl⟩
    · have H := Lib.hid (within_pos hn ha' hm)
      go_enter Try.func15, Try.ntmps15
      go_wp2
      go_ret
      exact ⟨by rw [← H.out]; rfl, rfl⟩
structure Sv (w0 W : World) (X : Nat → Prop) (p : Nat) (s : V) : Prop where
  at_ : At W X p s
  gr : Gr w0 W
  hi : ∀ i, X i → w0.heap.size ≤ i
section
variable {w0 W W' : World} {X X' : Nat → Prop} {p : Nat} {s s' : V}
theorem Sv.step (h : Sv w0 W X p s) (ha : At W' X' p s') (hm : Mv W X W' X') : Sv w0 W' X' p s' :=
  ⟨ha, h.gr.trans (hm.tr.below h.gr.size h.hi), fun i hi => by
    rcases hm.new i hi with h1 | h1
    · exact h.hi i h1
    · exact Nat.le_trans h.gr.size h1⟩
theorem Sv.more (h : Sv w0 W X p s) (hg : Gr W W') : Sv w0 W' X p s := ⟨h.at_.gr hg, h.gr.trans' hg, h.hi⟩
theorem Sv.new (ha : At W X p s) (hg : Gr w0 W) (hx : ∀ i, X i → w0.heap.size ≤ i) : Sv w0 W X p s := ⟨ha, hg, hx⟩
theorem Sv.ok (h : Sv w0 W X p s) : s.Ok := h.at_.1
theorem Mv.row {g : Nat} {t : TypeId} {xs : List Value} (hm : Mv W X W' X') (hr : Row W g t xs) (hx : ¬ X g) : Row W' g t xs ∧ ¬ X' g := by
  refine ⟨hm.tr.row hr hx, fun h => ?_⟩
  rcases hm.new g h with h1 | h1
  · exact hx h1
  · have := hr.lt
    omega
theorem Mv.rd {A : Option Addr} {xs : List Value} (hm : Mv W X W' X') (hr : Rd W A xs) (hx : ∀ ad, A = some ad → ¬ X ad.block) : Rd W' A xs := hm.tr.rd hr hx
theorem At.lt (h : At W X p s) : ∀ i, X i → i < W.heap.size := by
  obtain ⟨_, _, _, _, _, h⟩ := h
  exact h.lt
end
theorem write_ops (s : V) (n b : Str) : (s.write n b).1.ops ≤ s.ops + 1 := by
  unfold V.write
  split
  · simp
  · split
    · simp
    · split
      · simp
      · exact Nat.le_refl _
theorem remove_ops (s : V) (n : Str) : (s.remove n).1.ops ≤ s.ops + 1 := by
  unfold V.remove
  split
  · simp
  · split
    · exact Nat.le_refl _
    · simp
theorem flush_ops (s : V) : s.flush.1.ops ≤ s.ops + 1 := by
  unfold V.flush
  split
  · simp
  · split
    · exact Nat.le_refl _
    · exact Nat.le_refl _
theorem write_stop (s : V) (n b : Str) : (s.write n b).1.stop ≤ s.stop := by
  unfold V.write
  split
  · simp
  · split
    · simp
    · split
      · simp
      · exact Nat.sub_le _ _
theorem remove_stop (s : V) (n : Str) : (s.remove n).1.stop ≤ s.stop := by
  unfold V.remove
  split
  · simp
  · split
    · exact Nat.sub_le _ _
    · simp
theorem flush_stop (s : V) : s.flush.1.stop ≤ s.stop := by
  unfold V.flush
  split
  · simp
  · split
    · exact Nat.sub_le _ _
    · exact Nat.sub_le _ _
theorem sm_of {s : V} {a b : Nat} (h : s.ops ≤ a) (h' : s.stop ≤ b) (ha : a ≤ 1000000) (hb : b ≤ 1000000) : Sm s := ⟨by omega, by omega⟩
end Go.Proofs.Ytcfbkhgdlgnmgaa
set_option linter.unusedVariables false
set_option linter.unusedSimpArgs false
namespace Go.Proofs.Ytcfbkhgdlgnmgaa
open Go.RowKit Cd
theorem files_ext : ∀ {a b : Files}, a.Rising → b.Rising → (∀ n, a.get n = b.get n) → a = b
  | [], [], _, _, _ => rfl
  | [], (n, x) :: b, _, hb, h => by
    have := h n
    rw [get_of_mem hb (List.mem_cons_self ..)] at this
    cases this
  | (n, x) :: a, [], ha, _, h => by
    have := h n
    rw [get_of_mem ha (List.mem_cons_self ..)] at this
    cases this
  | (n, x) :: a, (m, y) :: b, ha, hb, h => by
    have h1 := h n
    have h2 := h m
    rw [get_of_mem ha (List.mem_cons_self ..)] at h1
    rw [get_of_mem hb (List.mem_cons_self ..)] at h2
    have ha' := ha
    have hb' := hb
    unfold Files.Rising Rising at ha' hb'
    rw [List.pairwise_cons] at ha' hb'
    have g1 := get_some h1.symm
    have g2 := get_some h2
    have e : n = m := by
      rcases List.mem_cons.1 g1 with e | g1
      · injection e
      · rcases List.mem_cons.1 g2 with e | g2
        · injection e with e; exact e.symm
        · have l1 := hb'.1 _ g1
          have l2 := ha'.1 _ g2
          have := bb_trans l1 l2
          rw [bb_irrefl] at this
          cases this
    subst e
    have e2 : x = y := by
      rw [get_of_mem hb (List.mem_cons_self ..)] at h1
      injection h1
    subst e2
    have ne1 : ∀ p ∈ a, p.1 ≠ n := fun p hp e => by
      have : bytesBefore n p.1 = true := ha'.1 p hp
      rw [e, bb_irrefl] at this
      cases this
    have ne2 : ∀ p ∈ b, p.1 ≠ n := fun p hp e => by
      have : bytesBefore n p.1 = true := hb'.1 p hp
      rw [e, bb_irrefl] at this
      cases this
    rw [files_ext (a := a) (b := b) ha'.2 hb'.2 (fun k => by
      by_cases hk : k = n
      · subst hk
        rw [get_none.2 ne1, get_none.2 ne2]
      · have := h k
        have e3 : ∀ c : Files, Files.get ((n, x) :: c) k = c.get k := fun c => by
          unfold Files.get
          rw [List.find?_cons_of_neg (by simpa using fun e => hk e.symm)]
        rwa [e3, e3] at this)]
theorem crash_keeps {Q : Files → Prop} : ∀ (cs : List Ch) (ks : List Int) (l : Files), l.Rising → Q l → (∀ c ∈ cs, ∀ K : Files, K.Rising → Q K → Q (c.act K) ∧ Q (c.half.act K)) → Q (crashF l cs ks)
  | [], ks, l, _, h, _ => by cases ks <;> exact h
  | c :: cs, [], l, _, h, _ => h
  | c :: cs, k :: ks, l, hr, h, hc => by
    have h1 := hc c (by simp) l hr h
    unfold crashF
    refine crash_keeps cs ks _ ?_ ?_ (fun d hd => hc d (by simp [hd]))
    · split
      · exact act_rising hr c
      · split
        · exact act_rising hr _
        · exact hr
    · split
      · exact h1.1
      · split
        · exact h1.2
        · exact h
theorem crash_one {l : Files} {c : Ch} (ks : List Int) : crashF l [c] ks = l ∨ crashF l [c] ks = c.act l ∨ crashF l [c] ks = c.half.act l := by
  cases ks with
  | nil => exact .inl rfl
  | cons k ks =>
    unfold crashF
    have e : ∀ K, crashF K [] ks = K := fun K => by cases ks <;> rfl
    rw [e]
    split
    · exact .inr (.inl rfl)
    · split
      · exact .inr (.inr rfl)
      · exact .inl rfl
structure Clean (K : Files) (v : V) : Prop where
  now : v.now = K
  kept : v.kept = K
  since : v.since = []
  live : v.dead = false
  up : K.Rising
theorem write_out {v : V} {n b : Str} (hd : v.dead = false) (hn : n ≠ []) (hl : n.length ≤ 20) (hr : v.now.used - ((v.now.get n).getD []).length + b.length ≤ v.room) :
    v.write n b = (v.done ⟨n, b, false⟩, deadNo (v.done ⟨n, b, false⟩).dead) := by
  unfold V.write
  rw [hd, if_neg Bool.false_ne_true, if_neg (by rintro (h | h); exact hn h; omega), if_neg (by omega)]
theorem remove_out {v : V} {n : Str} (hd : v.dead = false) (hn : (v.now.get n).isSome = true) : v.remove n = (v.done ⟨n, [], true⟩, deadNo (v.done ⟨n, [], true⟩).dead) := by
  unfold V.remove
  rw [hd, if_neg Bool.false_ne_true, if_pos hn]
theorem flush_out {v : V} (hd : v.dead = false) : v.flush = if v.step.dead then (v.step, 15) else ({ v.step with kept := v.now, since := [] }, 0) := by
  unfold V.flush
  rw [hd, if_neg Bool.false_ne_true]
theorem step_dead (v : V) : v.step.dead = if v.stop = 0 then v.dead else decide (v.stop = 1) := rfl
theorem one_flush {K : Files} {v : V} (h : Clean K v) (c : Ch) :
    let r : V × Int := if deadNo (v.done c).dead ≠ 0 then (v.done c, deadNo (v.done c).dead) else (v.done c).flush
    (r.2 = 0 ∧ Clean (c.act K) r.1 ∧ r.1.room = v.room ∧ r.1.ops = v.ops + 2 ∧ (v.stop = 0 → r.1.stop = 0)) ∨
      (v.stop ≠ 0 ∧ r.2 = 15 ∧ r.1.dead = true ∧ r.1.kept = K ∧ ∀ ks, crashF r.1.kept r.1.since ks = K ∨ crashF r.1.kept r.1.since ks = c.act K ∨ crashF r.1.kept r.1.since ks = c.half.act K) := by
  obtain ⟨h1, h2, h3, h4, h5⟩ := h
  have ek : (v.done c).kept = K := h2
  have es : (v.done c).since = [c] := by show v.since ++ [c] = [c]; rw [h3]; rfl
  have en : (v.done c).now = c.act K := by show c.act v.now = _; rw [h1]
  have hcr : ∀ ks, crashF K [c] ks = K ∨ crashF K [c] ks = c.act K ∨ crashF K [c] ks = c.half.act K := fun ks => crash_one ks
  have ed : (v.done c).dead = if v.stop = 0 then false else decide (v.stop = 1) := by
    show (if v.stop = 0 then v.dead else decide (v.stop = 1)) = _
    rw [h4]
  intro r
  have hr0 : r = if deadNo (v.done c).dead ≠ 0 then (v.done c, deadNo (v.done c).dead) else (v.done c).flush := rfl
  clear_value r
  by_cases hd : (v.done c).dead = true
  · rw [if_pos (by rw [hd]; decide)] at hr0
    rw [hr0]
    refine .inr ⟨fun e => ?_, by rw [hd]; rfl, hd, ek, fun ks => ?_⟩
    · rw [ed, if_pos e] at hd
      cases hd
    · show crashF (v.done c).kept (v.done c).since ks = K ∨ crashF (v.done c).kept (v.done c).since ks = c.act K ∨ crashF (v.done c).kept (v.done c).since ks = c.half.act K
      rw [ek, es]
      exact hcr ks
  · have hd : (v.done c).dead = false := by simpa using hd
    rw [if_neg (by rw [hd]; decide), flush_out hd] at hr0
    by_cases hd2 : (v.done c).step.dead = true
    · rw [if_pos hd2] at hr0
      rw [hr0]
      refine .inr ⟨fun e => ?_, rfl, hd2, ek, fun ks => ?_⟩
      · rw [step_dead, hd] at hd2
        have : (v.done c).stop = 0 := by show v.stop - 1 = 0; omega
        rw [if_pos this] at hd2
        cases hd2
      · show crashF (v.done c).kept (v.done c).since ks = K ∨ crashF (v.done c).kept (v.done c).since ks = c.act K ∨ crashF (v.done c).kept (v.done c).since ks = c.half.act K
        rw [ek, es]
        exact hcr ks
    · rw [if_neg hd2] at hr0
      rw [hr0]
      refine .inl ⟨rfl, ⟨en, en, rfl, by simpa using hd2, act_rising h5 c⟩, rfl, rfl, fun e => ?_⟩
      show v.stop - 1 - 1 = 0
      omega
theorem put_stage {K : Files} {v : V} (h : Clean K v) {n b : Str} (hn : n ≠ []) (hl : n.length ≤ 20) (hr : K.used - ((K.get n).getD []).length + b.length ≤ v.room) :
    ((putM v n b).2 = 0 ∧ Clean (K.put n b) (putM v n b).1 ∧ (putM v n b).1.room = v.room ∧ (putM v n b).1.ops = v.ops + 2 ∧ (v.stop = 0 → (putM v n b).1.stop = 0)) ∨
      (v.stop ≠ 0 ∧ (putM v n b).2 = 15 ∧ (putM v n b).1.dead = true ∧ (putM v n b).1.kept = K ∧ ∀ ks, crashF (putM v n b).1.kept (putM v n b).1.since ks = K ∨ crashF (putM v n b).1.kept (putM v n b).1.since ks = K.put n b ∨ crashF (putM v n b).1.kept (putM v n b).1.since ks = K.put n (b.take (b.length / 2))) := by
  have e : putM v n b = if deadNo (v.done ⟨n, b, false⟩).dead ≠ 0 then (v.done ⟨n, b, false⟩, deadNo (v.done ⟨n, b, false⟩).dead) else (v.done ⟨n, b, false⟩).flush := by
    unfold putM
    rw [write_out h.live hn hl (by rw [h.now]; exact hr)]
  rw [e]
  exact one_flush h ⟨n, b, false⟩
theorem away_stage {K : Files} {v : V} (h : Clean K v) {n : Str} (hn : (K.get n).isSome = true) :
    ((awayM v n).2 = 0 ∧ Clean (K.del n) (awayM v n).1 ∧ (awayM v n).1.room = v.room ∧ (awayM v n).1.ops = v.ops + 2 ∧ (v.stop = 0 → (awayM v n).1.stop = 0)) ∨
      (v.stop ≠ 0 ∧ (awayM v n).2 = 15 ∧ (awayM v n).1.dead = true ∧ (awayM v n).1.kept = K ∧ ∀ ks, crashF (awayM v n).1.kept (awayM v n).1.since ks = K ∨ crashF (awayM v n).1.kept (awayM v n).1.since ks = K.del n) := by
  have e : awayM v n = if deadNo (v.done ⟨n, [], true⟩).dead ≠ 0 then (v.done ⟨n, [], true⟩, deadNo (v.done ⟨n, [], true⟩).dead) else (v.done ⟨n, [], true⟩).flush := by
    unfold awayM
    rw [remove_out h.live (by rw [h.now]; exact hn)]
  rw [e]
  rcases one_flush h ⟨n, [], true⟩ with h1 | ⟨h1, h2, h3, h4, h5⟩
  · exact .inl h1
  · refine .inr ⟨h1, h2, h3, h4, fun ks => ?_⟩
    rcases h5 ks with h6 | h6 | h6
    · exact .inl h6
    · exact .inr h6
    · exact .inr h6
def putAll (F : Files) (l : List Fl) : Files := l.foldl (fun F f => F.put f.1 f.2) F
theorem putAll_cons (F : Files) (f : Fl) (l : List Fl) : putAll F (f :: l) = putAll (F.put f.1 f.2) l := rfl
theorem putAll_rising : ∀ (l : List Fl) {F : Files}, F.Rising → (putAll F l).Rising
  | [], F, h => h
  | f :: l, F, h => putAll_rising l (put_rising h _ _)
theorem putAll_out : ∀ (l : List Fl) {F : Files} (h : F.Rising) {n : Str}, n ∉ l.map (·.1) → (putAll F l).get n = F.get n
  | [], F, h, n, _ => rfl
  | f :: l, F, h, n, hn => by
    rw [List.map_cons, List.mem_cons, not_or] at hn
    rw [putAll_cons, putAll_out l (put_rising h _ _) hn.2, get_put h, if_neg hn.1]
theorem putAll_in : ∀ (l : List Fl) {F : Files} (h : F.Rising), (l.map (·.1)).Nodup → ∀ f ∈ l, (putAll F l).get f.1 = some f.2
  | [], F, h, _, f, hf => by cases hf
  | g :: l, F, h, hd, f, hf => by
    rw [List.map_cons, List.nodup_cons] at hd
    rw [putAll_cons]
    rcases List.mem_cons.1 hf with rfl | hf
    · rw [putAll_out l (put_rising h _ _) hd.1, get_put h, if_pos rfl]
    · exact putAll_in l (put_rising h _ _) hd.2 f hf
def chOf (f : Fl) : Ch := ⟨f.1, f.2, false⟩
def growF (F : Files) (l : List Fl) : Nat := (l.map fun f => f.2.length - ((F.get f.1).getD []).length).sum
theorem growF_put {F : Files} (h : F.Rising) {n b : Str} {l : List Fl} (hn : n ∉ l.map (·.1)) : growF (F.put n b) l = growF F l := by
  unfold growF
  congr 1
  refine List.map_congr_left (fun f hf => ?_)
  rw [get_put h, if_neg (fun e => hn (List.mem_map.2 ⟨f, hf, e⟩))]
theorem writeAll_stage : ∀ (l : List Fl) {v : V}, v.dead = false → v.now.Rising → (l.map (·.1)).Nodup → (∀ f ∈ l, f.1 ≠ [] ∧ f.1.length ≤ 20) → v.now.used + growF v.now l ≤ v.room →
    ((writeAll v l).2 = 0 ∧ (writeAll v l).1.dead = false ∧ (writeAll v l).1.now = putAll v.now l ∧ (writeAll v l).1.kept = v.kept ∧ (writeAll v l).1.since = v.since ++ l.map chOf ∧ (writeAll v l).1.room = v.room ∧ (writeAll v l).1.ops = v.ops + l.length ∧ (v.stop = 0 → (writeAll v l).1.stop = 0)) ∨
      (v.stop ≠ 0 ∧ (writeAll v l).2 = 15 ∧ (writeAll v l).1.dead = true ∧ (writeAll v l).1.kept = v.kept ∧ ∃ m, (writeAll v l).1.since = v.since ++ (l.take m).map chOf)
  | [], v, hd, _, _, _, _ => .inl ⟨rfl, hd, rfl, rfl, by simp [writeAll], rfl, rfl, fun e => e⟩
  | f :: l, v, hd, hr, hnd, hn, hroom => by
    rw [List.map_cons, List.nodup_cons] at hnd
    obtain ⟨hn1, hn2⟩ := hn f (by simp)
    have hg : growF v.now (f :: l) = (f.2.length - ((v.now.get f.1).getD []).length) + growF v.now l := by simp [growF]
    have hgu := get_le_used v.now f.1
    have hw := write_out (b := f.2) hd hn1 hn2 (by omega)
    have ed : (v.done (chOf f)).dead = if v.stop = 0 then false else decide (v.stop = 1) := by
      show (if v.stop = 0 then v.dead else decide (v.stop = 1)) = _
      rw [hd]
    have hw : v.write f.1 f.2 = (v.done (chOf f), deadNo (v.done (chOf f)).dead) := hw
    have es : (v.done (chOf f)).since = v.since ++ [chOf f] := rfl
    rw [writeAll, hw]
    by_cases hdd : (v.done (chOf f)).dead = true
    · rw [if_pos (by rw [hdd]; show deadNo true ≠ 0; decide)]
      refine .inr ⟨fun e => ?_, by rw [hdd]; rfl, hdd, rfl, 1, ?_⟩
      · rw [ed, if_pos e] at hdd
        cases hdd
      · rw [es]
        simp
    · have hdd : (v.done (chOf f)).dead = false := by simpa using hdd
      rw [if_neg (by rw [hdd]; show ¬ deadNo false ≠ 0; decide)]
      have en : (v.done (chOf f)).now = v.now.put f.1 f.2 := rfl
      have hu := used_put hr f.1 f.2
      have ih := writeAll_stage l (v := v.done (chOf f)) hdd (by rw [en]; exact put_rising hr _ _) hnd.2 (fun g hg => hn g (by simp [hg])) (by
        rw [en, growF_put hr hnd.1]
        show _ ≤ v.room
        omega)
      rw [en] at ih
      rcases ih with ⟨a1, a2, a3, a4, a5, a6, a7, a8⟩ | ⟨a1, a2, a3, a4, m, a5⟩
      · refine .inl ⟨a1, a2, a3, a4, ?_, a6, ?_, fun e => a8 ?_⟩
        · rw [a5, es]
          simp
        · rw [a7]
          show v.ops + 1 + l.length = _
          rw [List.length_cons]
          omega
        · show v.stop - 1 = 0
          omega
      · refine .inr ⟨fun e => a1 ?_, a2, a3, a4, m + 1, ?_⟩
        · show v.stop - 1 = 0
          omega
        · rw [a5, es]
          simp
theorem crash_writes {K : Files} (hK : K.Rising) (l : List Fl) (ks : List Int) {n : Str} (hn : n ∉ l.map (·.1)) : (crashF K (l.map chOf) ks).get n = K.get n := by
  refine crash_keeps (Q := fun K' => K'.get n = K.get n) _ ks K hK rfl (fun c hc K' hK' e => ?_)
  obtain ⟨f, hf, rfl⟩ := List.mem_map.1 hc
  have hne : n ≠ f.1 := fun e => hn (List.mem_map.2 ⟨f, hf, e.symm⟩)
  constructor
  · show ((chOf f).act K').get n = _
    rw [act_get hK', if_neg (show ¬ n = (chOf f).name from hne)]
    exact e
  · show ((chOf f).half.act K').get n = _
    rw [act_get hK', if_neg (show ¬ n = (chOf f).half.name from hne)]
    exact e
end Go.Proofs.Ytcfbkhgdlgnmgaa
set_option linter.unusedVariables false
set_option linter.unusedSimpArgs false
namespace Go.Proofs.Ytcfbkhgdlgnmgaa
open Go.RowKit Cd
theorem thn_ok {r : V × Int} {f : V → V × Int} (h : r.2 = 0) : V.thn r f = f r.1 := by unfold V.thn; rw [if_neg (by simp [h])]
theorem thn_bad {r : V × Int} {f : V → V × Int} (h : r.2 ≠ 0) : V.thn r f = r := by unfold V.thn; rw [if_pos h]
abbrev nmsL (l : List Fl) : List Str := l.map (·.1)
def MidF (M : Nat) (K : Files) (l : List Fl) (K' : Files) : Prop := (∀ n, n ∉ nmsL l → K'.get n = K.get n) ∧ ∀ n x, n ∈ nmsL l → K'.get n = some x → x.length ≤ M
def EndF (T : Files) (K' : Files) : Prop := K'.get mk = none ∧ ∀ n, n ≠ mk → n ≠ jn → K'.get n = T.get n
theorem crash_mid {M : Nat} {K : Files} (hK : K.Rising) {l : List Fl} (hM : ∀ n x, n ∈ nmsL l → K.get n = some x → x.length ≤ M) (hl : ∀ f ∈ l, f.2.length ≤ M) (m : Nat) (ks : List Int) : MidF M K l (crashF K ((l.take m).map chOf) ks) := by
  refine ⟨fun n hn => crash_writes hK _ ks (fun h => hn ?_), ?_⟩
  · obtain ⟨f, hf, e⟩ := List.mem_map.1 h
    exact List.mem_map.2 ⟨f, List.mem_of_mem_take hf, e⟩
  · refine crash_keeps (Q := fun K' => ∀ n x, n ∈ nmsL l → K'.get n = some x → x.length ≤ M) _ ks K hK hM (fun c hc K' hK' h => ?_)
    obtain ⟨f, hf, rfl⟩ := List.mem_map.1 hc
    have hfl := hl f (List.mem_of_mem_take hf)
    constructor
    · intro n x hn e
      rw [act_get hK'] at e
      split at e
      · have : some f.2 = some x := e
        injection this with e
        rw [← e]
        exact hfl
      · exact h n x hn e
    · intro n x hn e
      rw [act_get hK'] at e
      split at e
      · have : some (f.2.take (f.2.length / 2)) = some x := e
        injection this with e
        rw [← e, List.length_take]
        omega
      · exact h n x hn e
structure LOk (l : List Fl) : Prop where
  nd : (nmsL l).Nodup
  nm : ∀ f ∈ l, f.1 ≠ [] ∧ f.1.length ≤ 20
  nj : jn ∉ nmsL l
  nk : mk ∉ nmsL l
theorem LOk.of {l : List Fl} (h : mayM l = 0) : LOk l := by
  obtain ⟨_, _, h3⟩ := mayM_zero h
  have hb := fun f hf => nameBad_len (mayGo_zero h3 f hf).1
  refine ⟨(mayGo_nodup h3).1, fun f hf => ⟨(hb f hf).1, (hb f hf).2.1⟩, fun hm => ?_, fun hm => ?_⟩
  · obtain ⟨f, hf, e⟩ := List.mem_map.1 hm
    exact (hb f hf).2.2.1 e
  · obtain ⟨f, hf, e⟩ := List.mem_map.1 hm
    exact (hb f hf).2.2.2 e
theorem jn_mk : jn ≠ mk := by decide
theorem writeM_stage {M : Nat} {K : Files} {v : V} {l : List Fl} (h : Clean K v) (hl : LOk l) (hm : (K.get mk).isSome = true) (hj : (K.get jn).isSome = true) (hroom : K.used + growF K l ≤ v.room)
    (hM : ∀ n x, n ∈ nmsL l → K.get n = some x → x.length ≤ M) (hlM : ∀ f ∈ l, f.2.length ≤ M) :
    ((writeM v l).2 = 0 ∧ Clean (((putAll K l).del mk).del jn) (writeM v l).1 ∧ (writeM v l).1.room = v.room ∧ (writeM v l).1.ops = v.ops + l.length + 5 ∧ (v.stop = 0 → (writeM v l).1.stop = 0)) ∨
      (v.stop ≠ 0 ∧ (writeM v l).2 = 15 ∧ (writeM v l).1.dead = true ∧ (writeM v l).1.kept.Rising ∧ ∀ ks, MidF M K l (crashF (writeM v l).1.kept (writeM v l).1.since ks) ∨ EndF (putAll K l) (crashF (writeM v l).1.kept (writeM v l).1.since ks)) := by
  have hP : (putAll K l).Rising := putAll_rising l h.up
  have hPm : ((putAll K l).get mk).isSome = true := by rw [putAll_out l h.up hl.nk]; exact hm
  have hPj : ((putAll K l).get jn).isSome = true := by rw [putAll_out l h.up hl.nj]; exact hj
  have hPmid : MidF M K l (putAll K l) := ⟨fun n hn => putAll_out l h.up hn, fun n x hn e => by
    obtain ⟨f, hf, rfl⟩ := List.mem_map.1 hn
    rw [putAll_in l h.up hl.nd f hf] at e
    injection e with e
    rw [← e]
    exact hlM f hf⟩
  have hE1 : EndF (putAll K l) ((putAll K l).del mk) := ⟨by rw [get_del hP, if_pos rfl], fun n h1 h2 => by rw [get_del hP, if_neg h1]⟩
  have hE2 : EndF (putAll K l) (((putAll K l).del mk).del jn) := ⟨by rw [get_del (del_rising hP _), if_neg (Ne.symm jn_mk), get_del hP, if_pos rfl], fun n h1 h2 => by rw [get_del (del_rising hP _), if_neg h2, get_del hP, if_neg h1]⟩
  unfold writeM
  rcases writeAll_stage l h.live (by rw [h.now]; exact h.up) hl.nd hl.nm (by rw [h.now]; exact hroom) with ⟨a1, a2, a3, a4, a5, a6, a7, a8⟩ | ⟨a1, a2, a3, a4, m, a5⟩
  · rw [thn_ok a1, flush_out a2]
    by_cases hd : (writeAll v l).1.step.dead = true
    · rw [if_pos hd, thn_bad (r := ((writeAll v l).1.step, 15)) (show (15 : Int) ≠ 0 by decide), thn_bad (r := ((writeAll v l).1.step, 15)) (show (15 : Int) ≠ 0 by decide)]
      refine .inr ⟨fun e => ?_, rfl, hd, ?_, fun ks => .inl ?_⟩
      · rw [step_dead, if_pos (a8 e), a2] at hd
        cases hd
      · show (writeAll v l).1.kept.Rising
        rw [a4, h.kept]
        exact h.up
      · show MidF M K l (crashF (writeAll v l).1.kept (writeAll v l).1.since ks)
        rw [a4, a5, h.kept, h.since, List.nil_append]
        have := crash_mid h.up hM hlM l.length ks
        rwa [List.take_length] at this
    · rw [if_neg hd]
      have hc : Clean (putAll K l) { (writeAll v l).1.step with kept := (writeAll v l).1.now, since := [] } := by
        have en : (writeAll v l).1.now = putAll K l := by rw [a3, h.now]
        exact ⟨en, en, rfl, by simpa using hd, hP⟩
      generalize hv2 : ({ (writeAll v l).1.step with kept := (writeAll v l).1.now, since := [] } : V) = v2 at hc
      have er : v2.room = v.room := by rw [← hv2]; exact a6
      have eo : v2.ops = v.ops + l.length + 1 := by rw [← hv2]; show (writeAll v l).1.ops + 1 = _; rw [a7]
      have es : v.stop = 0 → v2.stop = 0 := fun e => by rw [← hv2]; show (writeAll v l).1.stop - 1 = 0; rw [a8 e]
      rw [thn_ok (r := (v2, 0)) rfl]
      rcases away_stage hc hPm with ⟨b1, b2, b3, b4, b5⟩ | ⟨b1, b2, b3, b4, b5⟩
      · rw [thn_ok b1]
        have hg : (((putAll K l).del mk).get jn).isSome = true := by rw [get_del hP, if_neg jn_mk]; exact hPj
        rcases away_stage b2 hg with ⟨c1, c2, c3, c4, c5⟩ | ⟨c1, c2, c3, c4, c5⟩
        · exact .inl ⟨c1, c2, by rw [c3, b3, er], by rw [c4, b4, eo], fun e => c5 (b5 (es e))⟩
        · refine .inr ⟨fun e => c1 (b5 (es e)), c2, c3, by rw [c4]; exact del_rising hP _, fun ks => .inr ?_⟩
          rcases c5 ks with e | e
          · rw [e]; exact hE1
          · rw [e]; exact hE2
      · rw [thn_bad (by rw [b2]; decide)]
        refine .inr ⟨fun e => b1 (es e), b2, b3, by rw [b4]; exact hP, fun ks => ?_⟩
        rcases b5 ks with e | e
        · rw [e]; exact .inl hPmid
        · rw [e]; exact .inr hE1
  · have hne : (writeAll v l).2 ≠ 0 := by rw [a2]; decide
    rw [thn_bad hne, thn_bad hne, thn_bad hne]
    refine .inr ⟨a1, a2, a3, by rw [a4, h.kept]; exact h.up, fun ks => .inl ?_⟩
    rw [a4, a5, h.kept, h.since, List.nil_append]
    exact crash_mid h.up hM hlM m ks
def DurA (G K : Files) : Prop := K.get mk = none ∧ ∀ n, n ≠ mk → n ≠ jn → K.get n = G.get n
def DurB (M : Nat) (F : Files) (l : List Fl) (K : Files) : Prop :=
  K.get mk = some [] ∧ K.get jn = some (bytesM l) ∧ (∀ n, n ∉ nmsL l → n ≠ mk → n ≠ jn → K.get n = F.get n) ∧ ∀ n x, n ∈ nmsL l → K.get n = some x → x.length ≤ M
def Dur (M : Nat) (F : Files) (l : List Fl) (K : Files) : Prop := DurA F K ∨ DurB M F l K ∨ DurA (putAll F l) K
theorem fin_eq {M : Nat} {F K : Files} {l : List Fl} (hF : F.Rising) (hK : K.Rising) (hl : LOk l) (hj : F.get jn = none) (hm : F.get mk = none) (hB : DurB M F l K) : ((putAll K l).del mk).del jn = putAll F l := by
  have hP := putAll_rising l hK
  refine files_ext (del_rising (del_rising hP _) _) (putAll_rising l hF) (fun n => ?_)
  rw [get_del (del_rising hP _)]
  by_cases h1 : n = jn
  · subst h1
    rw [if_pos rfl, putAll_out l hF hl.nj, hj]
  · rw [if_neg h1, get_del hP]
    by_cases h2 : n = mk
    · subst h2
      rw [if_pos rfl, putAll_out l hF hl.nk, hm]
    · rw [if_neg h2]
      by_cases h3 : n ∈ nmsL l
      · obtain ⟨f, hf, rfl⟩ := List.mem_map.1 h3
        rw [putAll_in l hK hl.nd f hf, putAll_in l hF hl.nd f hf]
      · rw [putAll_out l hK h3, putAll_out l hF h3, hB.2.2.1 n h3 h2 h1]
theorem mid_B {M : Nat} {F K K' : Files} {l : List Fl} (hl : LOk l) (hB : DurB M F l K) (h : MidF M K l K') : DurB M F l K' :=
  ⟨by rw [h.1 mk hl.nk]; exact hB.1, by rw [h.1 jn hl.nj]; exact hB.2.1, fun n h1 h2 h3 => by rw [h.1 n h1]; exact hB.2.2.1 n h1 h2 h3, h.2⟩
theorem end_A {M : Nat} {F K K' : Files} {l : List Fl} (hF : F.Rising) (hK : K.Rising) (hl : LOk l) (hB : DurB M F l K) (h : EndF (putAll K l) K') : DurA (putAll F l) K' :=
  ⟨h.1, fun n h1 h2 => by
    rw [h.2 n h1 h2]
    by_cases h3 : n ∈ nmsL l
    · obtain ⟨f, hf, rfl⟩ := List.mem_map.1 h3
      rw [putAll_in l hK hl.nd f hf, putAll_in l hF hl.nd f hf]
    · rw [putAll_out l hK h3, putAll_out l hF h3, hB.2.2.1 n h3 h1 h2]⟩
theorem commit_stage {M : Nat} {F : Files} {v : V} {l : List Fl} (h : Clean F v) (hl : mayM l = 0) (hj : F.get jn = none) (hm : F.get mk = none) (hroom : F.used + (bytesM l).length + growF F l ≤ v.room)
    (hM : ∀ n x, n ∈ nmsL l → F.get n = some x → x.length ≤ M) (hlM : ∀ f ∈ l, f.2.length ≤ M) :
    ((commitM v l).2 = 0 ∧ Clean (putAll F l) (commitM v l).1 ∧ (commitM v l).1.room = v.room ∧ (commitM v l).1.ops = v.ops + l.length + 9 ∧ (v.stop = 0 → (commitM v l).1.stop = 0)) ∨
      (v.stop ≠ 0 ∧ (commitM v l).2 = 15 ∧ (commitM v l).1.dead = true ∧ (commitM v l).1.kept.Rising ∧ (commitM v l).1.room = (commitM v l).1.room ∧ ∀ ks, Dur M F l (crashF (commitM v l).1.kept (commitM v l).1.since ks)) := by
  have hL := LOk.of hl
  have hf : fitsM v l (bytesM l) = 0 := by
    unfold fitsM
    rw [h.live, if_neg Bool.false_ne_true, if_neg]
    have : growM v l = growF F l := by unfold growM growF; rw [h.now]
    rw [h.now, this]
    omega
  have e : commitM v l = V.thn (V.thn (putM v jn (bytesM l)) (putM · mk [])) (writeM · l) := by
    unfold commitM
    rw [if_neg (by simp [hl]), if_neg (by simp [hf])]
  rw [e]
  have hu1 := used_put h.up jn (bytesM l)
  rw [hj] at hu1
  simp only [Option.getD_none, List.length_nil, Nat.add_zero] at hu1
  have hF1 := put_rising h.up jn (bytesM l)
  have g1 : ∀ n, (F.put jn (bytesM l)).get n = if n = jn then some (bytesM l) else F.get n := fun n => get_put h.up jn _ n
  have dA1 : ∀ b, DurA F (F.put jn b) := fun b => ⟨by rw [get_put h.up, if_neg (Ne.symm jn_mk)]; exact hm, fun n h1 h2 => by rw [get_put h.up, if_neg h2]⟩
  have dA0 : DurA F F := ⟨hm, fun _ _ _ => rfl⟩
  rcases put_stage h (n := jn) (b := bytesM l) (by decide) (by decide) (by rw [hj]; simp only [Option.getD_none, List.length_nil, Nat.sub_zero]; omega) with ⟨a1, a2, a3, a4, a5⟩ | ⟨a1, a2, a3, a4, a5⟩
  · rw [thn_ok a1]
    have hm1 : (F.put jn (bytesM l)).get mk = none := by rw [g1, if_neg (Ne.symm jn_mk)]; exact hm
    have hu2 := used_put hF1 mk []
    rw [hm1] at hu2
    simp only [Option.getD_none, List.length_nil, Nat.add_zero] at hu2
    have hF2 := put_rising hF1 mk []
    have g2 : ∀ n, ((F.put jn (bytesM l)).put mk []).get n = if n = mk then some [] else if n = jn then some (bytesM l) else F.get n := fun n => by rw [get_put hF1, g1]
    have hB : DurB M F l ((F.put jn (bytesM l)).put mk []) := ⟨by rw [g2, if_pos rfl], by rw [g2, if_neg jn_mk, if_pos rfl], fun n h1 h2 h3 => by rw [g2, if_neg h2, if_neg h3], fun n x h1 e => by
      rw [g2, if_neg (show ¬ n = mk from fun e => hL.nk (e ▸ h1)), if_neg (show ¬ n = jn from fun e => hL.nj (e ▸ h1))] at e
      exact hM n x h1 e⟩
    rcases put_stage a2 (n := mk) (b := []) (by decide) (by decide) (by rw [hm1, a3]; simp only [Option.getD_none, List.length_nil, Nat.sub_zero, Nat.add_zero]; omega) with ⟨b1, b2, b3, b4, b5⟩ | ⟨b1, b2, b3, b4, b5⟩
    · rw [thn_ok b1]
      have hgr : growF ((F.put jn (bytesM l)).put mk []) l = growF F l := by rw [growF_put hF1 hL.nk, growF_put h.up hL.nj]
      rcases writeM_stage (M := M) b2 hL (by rw [hB.1]; rfl) (by rw [hB.2.1]; rfl) (by rw [hgr, b3, a3]; omega) hB.2.2.2 hlM with ⟨c1, c2, c3, c4, c5⟩ | ⟨c1, c2, c3, c4, c5⟩
      · rw [fin_eq h.up hF2 hL hj hm hB] at c2
        exact .inl ⟨c1, c2, by rw [c3, b3, a3], by rw [c4, b4, a4]; omega, fun e => c5 (b5 (a5 e))⟩
      · refine .inr ⟨fun e => c1 (b5 (a5 e)), c2, c3, c4, rfl, fun ks => ?_⟩
        rcases c5 ks with h1 | h1
        · exact .inr (.inl (mid_B hL hB h1))
        · exact .inr (.inr (end_A h.up hF2 hL hB h1))
    · rw [thn_bad (by rw [b2]; decide)]
      refine .inr ⟨fun e => b1 (a5 e), b2, b3, by rw [b4]; exact hF1, rfl, fun ks => ?_⟩
      rcases b5 ks with e | e | e
      · rw [e]; exact .inl (dA1 _)
      · rw [e]; exact .inr (.inl hB)
      · rw [e]; exact .inr (.inl hB)
  · have hne : (putM v jn (bytesM l)).2 ≠ 0 := by rw [a2]; decide
    rw [thn_bad hne, thn_bad hne]
    refine .inr ⟨a1, a2, a3, by rw [a4]; exact h.up, rfl, fun ks => .inl ?_⟩
    rcases a5 ks with e | e | e
    · rw [e]; exact dA0
    · rw [e]; exact dA1 _
    · rw [e]; exact dA1 _
end Go.Proofs.Ytcfbkhgdlgnmgaa
set_option linter.unusedVariables false
set_option linter.unusedSimpArgs false
namespace Go.Proofs.Ytcfbkhgdlgnmgaa
open Go.RowKit Go.Maps Go.Sort
section
variable {X Z : Nat → Prop} {w w' : World} {p : Nat} {s : V} {A : Option Addr} {rs : List FlR}
structure Sl (s : V) : Prop where
  ops : s.ops ≤ 900000
  stop : s.stop ≤ 1000000
theorem Sl.sm (h : Sl s) : Sm s := sm_of h.ops h.stop (by omega) (by omega)
theorem Sl.write (h : Sl s) (n b : Str) : Sm (s.write n b).1 := sm_of (Nat.le_trans (write_ops s n b) (Nat.succ_le_succ h.ops)) (Nat.le_trans (write_stop s n b) h.stop) (by omega) (by omega)
theorem Sl.remove (h : Sl s) (n : Str) : Sm (s.remove n).1 := sm_of (Nat.le_trans (remove_ops s n) (Nat.succ_le_succ h.ops)) (Nat.le_trans (remove_stop s n) h.stop) (by omega) (by omega)
set_option maxHeartbeats 1000000 in
theorem put_any (h : At w X p s) (hs : Sl s) (n : Str) (hn : n.length ≤ maxLen) (A2 : Option Addr) (n2 c2 : Nat) (b : Str) (hb : Hid (b.length = n2)) (hr : Rd w A2 (b.map bv)) (hl : n2 ≤ 1000000) :
    Calls Try.prog 42 #[.pointer (some ⟨p, 0, none⟩), encStr n, .slice A2 n2 c2] w fun e w' => e = .returned (.int .i64 (putM s n b).2) ∧ ∃ X', At w' X' p (putM s n b).1 ∧ Mv w X w' X' := by
  have HW := Lib.hid (write_any h hs.sm n hn A2 n2 c2 b hb hr hl)
  have HF := Lib.hid (fun W X1 (ha : At W X1 p (s.write n b).1) => flush_any ha (hs.write n b))
  unfold putM
  generalize s.write n b = r at *
  obtain ⟨v, e⟩ := r
  simp only at *
  by_cases he : e = 0
  · subst he
    rw [if_neg (by simp)]
    go_enter Try.func42, Try.ntmps42
    go_wp2_with (first
      | (go_at_call 17; refine HW.out.mono ?_; rintro e w1 ⟨rfl, X1, ha, hm⟩)
      | (go_at_call 18; refine (HF.out _ _ ha).mono ?_; rintro e w2 ⟨rfl, X2, ha2, hm2⟩))
    go_ret
    exact ⟨rfl, X2, ha2, hm.trans hm2⟩
  · rw [if_pos he]
    have he2 : (e == 0) = false := by simpa using he
    go_enter Try.func42, Try.ntmps42
    go_wp2_with (go_at_call 17; refine HW.out.mono ?_; rintro e w1 ⟨rfl, X1, ha, hm⟩)
    go_ret
    exact ⟨rfl, X1, ha, hm⟩
set_option maxHeartbeats 1000000 in
theorem away_any (h : At w X p s) (hs : Sl s) (n : Str) (hn : n.length ≤ maxLen) :
    Calls Try.prog 46 #[.pointer (some ⟨p, 0, none⟩), encStr n] w fun e w' => e = .returned (.int .i64 (awayM s n).2) ∧ ∃ X', At w' X' p (awayM s n).1 ∧ Mv w X w' X' := by
  have HW := Lib.hid (remove_any h hs.sm n hn)
  have HF := Lib.hid (fun W X1 (ha : At W X1 p (s.remove n).1) => flush_any ha (hs.remove n))
  unfold awayM
  generalize s.remove n = r at *
  obtain ⟨v, e⟩ := r
  simp only at *
  by_cases he : e = 0
  · subst he
    rw [if_neg (by simp)]
    go_enter Try.func46, Try.ntmps46
    go_wp2_with (first
      | (go_at_call 67; refine HW.out.mono ?_; rintro e w1 ⟨rfl, X1, ha, hm⟩)
      | (go_at_call 18; refine (HF.out _ _ ha).mono ?_; rintro e w2 ⟨rfl, X2, ha2, hm2⟩))
    go_ret
    exact ⟨rfl, X2, ha2, hm.trans hm2⟩
  · rw [if_pos he]
    have he2 : (e == 0) = false := by simpa using he
    go_enter Try.func46, Try.ntmps46
    go_wp2_with (go_at_call 67; refine HW.out.mono ?_; rintro e w1 ⟨rfl, X1, ha, hm⟩)
    go_ret
    exact ⟨rfl, X1, ha, hm⟩
theorem writeAll_ops : ∀ (l : List Fl) (s : V), (writeAll s l).1.ops ≤ s.ops + l.length ∧ (writeAll s l).1.stop ≤ s.stop
  | [], s => ⟨Nat.le_refl _, Nat.le_refl _⟩
  | f :: l, s => by
    rw [writeAll]
    have h1 := write_ops s f.1 f.2
    have h2 := write_stop s f.1 f.2
    have h3 := writeAll_ops l (s.write f.1 f.2).1
    rw [List.length_cons]
    split
    · exact ⟨by omega, h2⟩
    · exact ⟨by omega, by omega⟩
theorem putM_ops (s : V) (n b : Str) : (putM s n b).1.ops ≤ s.ops + 2 ∧ (putM s n b).1.stop ≤ s.stop := by
  unfold putM
  have h1 := write_ops s n b
  have h2 := write_stop s n b
  have h3 := flush_ops (s.write n b).1
  have h4 := flush_stop (s.write n b).1
  split
  · exact ⟨by omega, h2⟩
  · exact ⟨by omega, by omega⟩
theorem awayM_ops (s : V) (n : Str) : (awayM s n).1.ops ≤ s.ops + 2 ∧ (awayM s n).1.stop ≤ s.stop := by
  unfold awayM
  have h1 := remove_ops s n
  have h2 := remove_stop s n
  have h3 := flush_ops (s.remove n).1
  have h4 := flush_stop (s.remove n).1
  split
  · exact ⟨by omega, h2⟩
  · exact ⟨by omega, by omega⟩
structure Sc (s : V) : Prop where
  ops : s.ops ≤ 800000
  stop : s.stop ≤ 1000000
theorem Sc.sl (h : Sc s) {s' : V} (h1 : s'.ops ≤ s.ops + 10000) (h2 : s'.stop ≤ s.stop) : Sl s' := ⟨by have := h.ops; omega, by have := h.stop; omega⟩
def restM : Nat → V → V × Int
  | 0, v => V.thn (awayM v mk) (awayM · jn)
  | 1, v => awayM v jn
  | _, v => (v, 0)
theorem writeM_rest (s : V) (l : List Fl) : writeM s l = V.thn (V.thn (writeAll s l) V.flush) (restM 0) := by
  unfold writeM
  by_cases h1 : (writeAll s l).2 = 0
  · rw [thn_ok h1]
    generalize (writeAll s l).1.flush = r
    by_cases h2 : r.2 = 0
    · rw [thn_ok h2, thn_ok h2]
      rfl
    · rw [thn_bad h2, thn_bad h2, thn_bad h2]
  · rw [thn_bad h1, thn_bad h1, thn_bad h1, thn_bad h1]
set_option maxHeartbeats 4000000 in
theorem cwrite_any (h : At w X p s) (hs : Sc s) (hf : FlS w Z A rs) (hz : ∀ i, Z i → ¬ X i ∧ i < w.heap.size) (c : Nat) (hl : rs.length ≤ 255) (hb : ∀ f ∈ rs, f.q.n ≤ 1000000) :
    Calls Try.prog 43 #[.pointer (some ⟨p, 0, none⟩), .slice A rs.length c] w fun e w' => e = .returned (.int .i64 (writeM s (rs.map FlR.fl)).2) ∧ ∃ X', At w' X' p (writeM s (rs.map FlR.fl)).1 ∧ Mv w X w' X' := by
  obtain ⟨l, hl0⟩ : ∃ l, l = rs.map FlR.fl := ⟨_, rfl⟩
  rw [← hl0, writeM_rest]
  have hll : l.length = rs.length := by rw [hl0, List.length_map]
  generalize hn : rs.length = n at hl hll ⊢
  obtain ⟨R, hR⟩ : ∃ R, R = writeAll s l := ⟨_, rfl⟩
  rw [← hR]
  have HR := Lib.hid hR
  clear hR
  go_enter Try.func43, Try.ntmps43
  go_wp2_with fail
  go_loopw [11] (fun i wr => ∃ j : Nat, j ≤ n ∧ i = .int .i64 j ∧ ∃ X1 v, Hid (At wr X1 p v) ∧ Hid (R = writeAll v (l.drop j)) ∧ Hid (Mv w X wr X1) ∧ Hid (v.ops ≤ s.ops + j ∧ v.stop ≤ s.stop)) (fun i _ => n - (intOf i).toNat)
  case atStart => exact ⟨0, by omega, rfl, X, s, Lib.hid h, Lib.hid (by rw [HR.out]; rfl), Lib.hid (Mv.rfl' _ _), Lib.hid ⟨by omega, by omega⟩⟩
  case round =>
    obtain ⟨j, hj, rfl, X1, v, hat, hR, hmv, hov⟩ := hrel
    by_cases hlt : j < n
    · have hjl : j < rs.length := by omega
      have hfr := hf.tr hmv.out.tr (fun i hi => (hz i hi).1)
      obtain ⟨g, off, rfl, x0, x1⟩ := hfr.at_ hjl
      obtain ⟨hq, hnm, _⟩ := hfr.ok _ (List.getElem_mem hjl)
      have hqn := hb _ (List.getElem_mem hjl)
      have hlj : l[j]'(by omega) = rs[j].fl := by simp [hl0]
      have hR1 : R = if (v.write rs[j].nm rs[j].q.b).2 ≠ 0 then v.write rs[j].nm rs[j].q.b else writeAll (v.write rs[j].nm rs[j].q.b).1 (l.drop (j + 1)) := by
        rw [hR.out, List.drop_eq_getElem_cons (by omega), hlj]
        rfl
      have hov1 := write_ops v rs[j].nm rs[j].q.b
      have hov2 := write_stop v rs[j].nm rs[j].q.b
      have hsl := hs.sl (s' := v) (by have := hov.out.1; omega) hov.out.2
      have HW := Lib.hid (fun W (hg : Gr wr W) => write_any (hat.out.gr hg) hsl.sm rs[j].nm hnm rs[j].q.A rs[j].q.n rs[j].q.c rs[j].q.b hq.len (hq.rd.gr hg) hqn)
      generalize v.write rs[j].nm rs[j].q.b = r at hR1 hov1 hov2 HW
      obtain ⟨v1, e1⟩ := r
      simp only at hR1 hov1 hov2 HW
      have hov3 := Lib.hid (show v1.ops ≤ s.ops + (j + 1) ∧ v1.stop ≤ s.stop from ⟨by have := hov.out.1; omega, Nat.le_trans hov2 hov.out.2⟩)
      clear hov1 hov2 hov hsl hq hnm hqn hlj hfr hR hat
      by_cases he : e1 = 0
      · subst he
        rw [if_neg (by simp)] at hR1
        have hR2 := Lib.hid hR1
        clear hR1
        go_wp2_with (go_at_call 17; refine (HW.out _ (Gr.alloc1 _ _)).mono ?_; rintro e w2 ⟨rfl, X2, ha, hm⟩)
        go_roundw
        case rel => exact ⟨j + 1, by omega, by go_num, X2, v1, Lib.hid ha, hR2, Lib.hid (hmv.out.trans ((Mv.of_gr (Gr.alloc1 _ _) _).trans hm)), hov3⟩
        case measure => simp [intOf]; omega
      · rw [if_pos he] at hR1
        have he2 : (e1 == 0) = false := by simpa using he
        have HE := Lib.hid (show V.thn (V.thn R V.flush) (restM 0) = (v1, e1) from by rw [hR1, thn_bad (r := (v1, e1)) he, thn_bad (r := (v1, e1)) he])
        clear hR1
        go_wp2_with (go_at_call 17; refine (HW.out _ (Gr.alloc1 _ _)).mono ?_; rintro e w2 ⟨rfl, X2, ha, hm⟩)
        go_ret
        rw [HE.out]
        exact ⟨rfl, X2, ha, hmv.out.trans ((Mv.of_gr (Gr.alloc1 _ _) _).trans hm)⟩
    · obtain rfl : j = n := by omega
      have hR1 : R = (v, 0) := by rw [hR.out, List.drop_of_length_le (by omega)]; rfl
      have hsl := hs.sl (s' := v) (by have := hov.out.1; omega) hov.out.2
      have hov1 := flush_ops v
      have hov2 := flush_stop v
      have HF := Lib.hid (flush_any hat.out hsl.sm)
      have hE : V.thn (V.thn R V.flush) (restM 0) = V.thn v.flush (restM 0) := by rw [hR1, thn_ok (r := (v, 0)) rfl]
      generalize v.flush = r at hov1 hov2 HF hE
      obtain ⟨v1, e1⟩ := r
      simp only at hov1 hov2 HF
      have hov3 := Lib.hid (show v1.ops ≤ s.ops + 300 ∧ v1.stop ≤ s.stop from ⟨by have := hov.out.1; omega, Nat.le_trans hov2 hov.out.2⟩)
      clear hov1 hov2 hov hsl hR hat hR1
      by_cases he : e1 = 0
      · subst he
        rw [thn_ok (r := (v1, 0)) rfl] at hE
        have HE := Lib.hid hE
        clear hE
        go_wp2_with (go_at_call 18; refine HF.out.mono ?_; rintro e w2 ⟨rfl, X2, ha, hm⟩; have hm2 := Lib.hid (hmv.out.trans hm); have ha2 := Lib.hid ha; clear hm ha hmv)
        have hrow := Lib.hid (show Row (w2.alloc (.cells #[.string ⟨#[109, 97, 114, 107]⟩, .string ⟨#[106, 111, 117, 114, 110, 97, 108]⟩] 9)) w2.heap.size 9 [encStr mk, encStr jn] from Row.new w2 9 [encStr mk, encStr jn])
        have ha3 := Lib.hid (ha2.out.gr (Gr.alloc1 w2 (.cells #[.string ⟨#[109, 97, 114, 107]⟩, .string ⟨#[106, 111, 117, 114, 110, 97, 108]⟩] 9)))
        have hm3 := Lib.hid (hm2.out.trans (Mv.of_gr (Gr.alloc1 w2 (.cells #[.string ⟨#[109, 97, 114, 107]⟩, .string ⟨#[106, 111, 117, 114, 110, 97, 108]⟩] 9)) X2))
        have hnx := Lib.hid (show ¬ X2 w2.heap.size from fun hx => by have := ha2.out.lt _ hx; omega)
        clear ha2 hm2 HF HR
        generalize w2.alloc (.cells #[.string ⟨#[109, 97, 114, 107]⟩, .string ⟨#[106, 111, 117, 114, 110, 97, 108]⟩] 9) = w3 at hrow ha3 hm3 ⊢
        generalize w2.heap.size = gB at hrow hnx ⊢
        go_loopw [32] (fun i wr => ∃ k : Nat, k ≤ 2 ∧ i = .int .i64 k ∧ ∃ X4 v4, Hid (At wr X4 p v4) ∧ Hid (V.thn (V.thn R V.flush) (restM 0) = restM k v4) ∧ Hid (Mv w X wr X4) ∧ Hid (v4.ops ≤ s.ops + 300 + 2 * k ∧ v4.stop ≤ s.stop) ∧ Hid (Row wr gB 9 [encStr mk, encStr jn]) ∧ Hid (¬ X4 gB)) (fun i _ => 2 - (intOf i).toNat)
        case atStart => exact ⟨0, by omega, rfl, X2, v1, ha3, HE, hm3, Lib.hid ⟨by have := hov3.out.1; omega, hov3.out.2⟩, hrow, hnx⟩
        case round =>
          obtain ⟨k, hk, rfl, X4, v4, hat, hE4, hmv, hov, hrow, hnx⟩ := hrel
          have hsl := hs.sl (s' := v4) (by have := hov.out.1; omega) hov.out.2
          rcases (by omega : k = 0 ∨ k = 1 ∨ k = 2) with rfl | rfl | rfl
          · have x0 : wr.cell? ⟨gB, 0, none⟩ = some (encStr mk) := (hrow.out.cell 0).trans rfl
            have HW := Lib.hid (away_any hat.out hsl mk (by decide))
            have ho := awayM_ops v4 mk
            have hE5 := hE4.out
            rw [restM] at hE5
            generalize awayM v4 mk = r at HW ho hE5
            obtain ⟨v5, e5⟩ := r
            simp only at HW ho
            have hov5 := Lib.hid (show v5.ops ≤ s.ops + 300 + 2 * 1 ∧ v5.stop ≤ s.stop from ⟨by have := hov.out.1; omega, Nat.le_trans ho.2 hov.out.2⟩)
            clear ho hov hsl hE4 hat
            by_cases he : e5 = 0
            · subst he
              rw [thn_ok (r := (v5, 0)) rfl] at hE5
              have HE5 := Lib.hid hE5
              clear hE5
              go_wp2_with (go_at_call 46; refine HW.out.mono ?_; rintro e w5 ⟨rfl, X5, ha, hm⟩)
              go_roundw
              case rel => exact ⟨1, by omega, by go_num, X5, v5, Lib.hid ha, HE5, Lib.hid (hmv.out.trans hm), hov5, Lib.hid (hm.row hrow.out hnx.out).1, Lib.hid (hm.row hrow.out hnx.out).2⟩
              case measure => simp [intOf]
            · have he2 : (e5 == 0) = false := by simpa using he
              rw [thn_bad (r := (v5, e5)) he] at hE5
              have HE5 := Lib.hid hE5
              clear hE5
              go_wp2_with (go_at_call 46; refine HW.out.mono ?_; rintro e w5 ⟨rfl, X5, ha, hm⟩)
              go_ret
              rw [HE5.out]
              exact ⟨rfl, X5, ha, hmv.out.trans hm⟩
          · have x0 : wr.cell? ⟨gB, 1, none⟩ = some (encStr jn) := (hrow.out.cell 1).trans rfl
            have HW := Lib.hid (away_any hat.out hsl jn (by decide))
            have ho := awayM_ops v4 jn
            have hE5 := hE4.out
            rw [show restM 1 v4 = awayM v4 jn from rfl] at hE5
            generalize awayM v4 jn = r at HW ho hE5
            obtain ⟨v5, e5⟩ := r
            simp only at HW ho
            have hov5 := Lib.hid (show v5.ops ≤ s.ops + 300 + 2 * 2 ∧ v5.stop ≤ s.stop from ⟨by have := hov.out.1; omega, Nat.le_trans ho.2 hov.out.2⟩)
            have HE5 := Lib.hid hE5
            clear ho hov hsl hE4 hat hE5
            by_cases he : e5 = 0
            · subst he
              go_wp2_with (go_at_call 46; refine HW.out.mono ?_; rintro e w5 ⟨rfl, X5, ha, hm⟩)
              go_roundw
              case rel => exact ⟨2, by omega, by go_num, X5, v5, Lib.hid ha, HE5, Lib.hid (hmv.out.trans hm), hov5, Lib.hid (hm.row hrow.out hnx.out).1, Lib.hid (hm.row hrow.out hnx.out).2⟩
              case measure => simp [intOf]
            · have he2 : (e5 == 0) = false := by simpa using he
              go_wp2_with (go_at_call 46; refine HW.out.mono ?_; rintro e w5 ⟨rfl, X5, ha, hm⟩)
              go_ret
              rw [HE5.out]
              exact ⟨rfl, X5, ha, hmv.out.trans hm⟩
          · go_wp2
            go_ret
            rw [hE4.out]
            exact ⟨rfl, X4, hat.out, hmv.out⟩
      · have he2 : (e1 == 0) = false := by simpa using he
        rw [thn_bad (r := (v1, e1)) he] at hE
        have HE := Lib.hid hE
        clear hE
        go_wp2_with (go_at_call 18; refine HF.out.mono ?_; rintro e w2 ⟨rfl, X2, ha, hm⟩)
        go_ret
        rw [HE.out]
        exact ⟨rfl, X2, ha, hmv.out.trans hm⟩
theorem growF_take {F : Files} {l : List Fl} {j : Nat} (h : j < l.length) : growF F (l.take (j + 1)) = growF F (l.take j) + (l[j].2.length - ((F.get l[j].1).getD []).length) := by
  unfold growF
  rw [List.take_succ_eq_append_getElem h, List.map_append, List.sum_append]
  simp
theorem growF_le {F : Files} {l : List Fl} (hl : ∀ f ∈ l, f.2.length ≤ 1000000) : growF F l ≤ l.length * 1000000 := by
  unfold growF
  induction l with
  | nil => simp
  | cons f l ih =>
    have h1 := hl f (by simp)
    have h2 := ih (fun g hg => hl g (by simp [hg]))
    rw [List.map_cons, List.sum_cons, List.length_cons, Nat.succ_mul]
    omega
set_option maxHeartbeats 4000000 in
theorem fits_any (h : At w X p s) (hs : Sc s) (hf : FlS w Z A rs) (c : Nat) (hl : rs.length ≤ 255) (h1 : 1 ≤ rs.length) (hb : ∀ f ∈ rs, f.q.n ≤ 1000000) (A2 : Option Addr) (n2 c2 : Nat) (b : Str) (hn2 : b.length = n2) (hl2 : n2 ≤ 100000000) :
    Calls Try.prog 41 #[.pointer (some ⟨p, 0, none⟩), .slice A rs.length c, .slice A2 n2 c2] w fun e w' => e = .returned (.int .i64 (fitsM s (rs.map FlR.fl) b)) ∧ Gr w w' := by
  obtain ⟨l, hl0⟩ : ∃ l, l = rs.map FlR.fl := ⟨_, rfl⟩
  have hll : l.length = rs.length := by rw [hl0, List.length_map]
  have hsl := hs.sl (s' := s) (by omega) (Nat.le_refl _)
  have HU := Lib.hid (used_any h hsl.sm)
  have hub := used_small h.1 (show s.ops ≤ 1000000 by have := hs.ops; omega)
  unfold mostRoom at hub
  have hlb : ∀ f ∈ l, f.2.length ≤ 1000000 := fun f hf' => by
    rw [hl0] at hf'
    obtain ⟨g, hg, rfl⟩ := List.mem_map.1 hf'
    have h1 := hb g hg
    have h2 := (hf.ok g hg).1.len.out
    show g.q.b.length ≤ _
    omega
  have hroom := h.1.room
  unfold mostRoom at hroom
  have HN := Lib.hid (fun W (hg : Gr w W) => room_any (h.gr hg))
  have HD := Lib.hid (fun W (hg : Gr w W) => dead_any (h.gr hg))
  have HF := Lib.hid (show fitsM s (rs.map FlR.fl) b = if s.dead then 15 else if s.room < s.now.used + n2 + growF s.now l then 14 else 0 from by rw [← hn2, hl0]; rfl)
  rw [HF.out]
  clear HF
  generalize hn : rs.length = n at hl h1 hll ⊢
  obtain ⟨u, hu⟩ : ∃ u, u = s.now.used := ⟨_, rfl⟩
  rw [← hu] at HU hub ⊢
  clear hu
  cases hd : s.dead with
  | true =>
    rw [if_pos rfl]
    have HR := Lib.hid (fun W (hg : Gr w W) (m : Str) (hm : m.length ≤ maxLen) => show Calls Try.prog 44 #[.pointer (some ⟨p, 0, none⟩), encStr m] W fun e w' => ∃ A' m' c', e = .returned (.tuple #[.slice A' m' c', .bool false, .int .i64 15]) ∧ Gr W w' from by
      refine (read_any (h.gr hg) m hm).mono ?_
      rw [show s.read m = ([], false, 15) from by simp [V.read, hd]]
      rintro e w' ⟨A', m', c', rfl, _, _, hg⟩
      exact ⟨A', m', c', rfl, hg⟩)
    go_enter Try.func41, Try.ntmps41
    go_wp2_with (go_at_call 34; refine HU.out.mono ?_; rintro e w1 ⟨rfl, hg1⟩)
    go_loopw [20] (fun i wr => i = .int .i64 0 ∧ Gr w wr) (fun i _ => 0)
    case atStart => exact ⟨rfl, hg1⟩
    case round =>
      obtain ⟨rfl, hg⟩ := hrel
      obtain ⟨g, off, rfl, x0, x1⟩ := (hf.gr hg).at_ (i := 0) (by omega)
      have hnm := (hf.ok _ (List.getElem_mem (show 0 < rs.length by omega))).2.1
      simp only [Nat.zero_mul, Nat.add_zero] at x0 x1
      go_wp2_with (go_at_call 44; refine (HR.out _ (hg.trans' (Gr.alloc1 _ _)) _ hnm).mono ?_; rintro e w2 ⟨A', m, c', rfl, hg2⟩)
      go_ret
      exact ⟨rfl, (hg.trans' (Gr.alloc1 _ _)).trans' hg2⟩
  | false =>
    rw [if_neg Bool.false_ne_true]
    obtain ⟨F, hF⟩ : ∃ F, F = s.now := ⟨_, rfl⟩
    have HR := Lib.hid (fun W (hg : Gr w W) (m : Str) (hm : m.length ≤ maxLen) => show Calls Try.prog 44 #[.pointer (some ⟨p, 0, none⟩), encStr m] W fun e w' => ∃ A' c', e = .returned (.tuple #[.slice A' ((F.get m).getD []).length c', .bool (F.get m).isSome, .int .i64 0]) ∧ Gr W w' from by
      refine (read_any (h.gr hg) m hm).mono ?_
      rw [show s.read m = ((F.get m).getD [], (F.get m).isSome, 0) from by simp [V.read, hd, hF]]
      rintro e w' ⟨A', m', c', rfl, hm', _, hg⟩
      simp only at hm'
      rw [hm']
      exact ⟨A', c', rfl, hg⟩)
    have hFl : ∀ m, ((F.get m).getD []).length ≤ 1048576 := fun m => by rw [hF]; exact get_room h.1 m
    rw [← hF]
    rw [hd] at HD
    clear hF hd
    obtain ⟨res, hres⟩ : ∃ r, (if s.room < u + n2 + growF F l then (14 : Int) else 0) = r := ⟨_, rfl⟩
    rw [hres]
    have HRES := Lib.hid hres
    clear hres
    have hgl := fun j => growF_le (F := F) (l := l.take j) (fun f hf' => hlb f (List.mem_of_mem_take hf'))
    go_enter Try.func41, Try.ntmps41
    go_wp2_with (go_at_call 34; refine HU.out.mono ?_; rintro e w1 ⟨rfl, hg1⟩)
    go_loopw [7, 20] (fun t i wr => ∃ j : Nat, j ≤ n ∧ i = .int .i64 j ∧ t = .int .i64 ((u + n2 + growF F (l.take j) : Nat) : Int) ∧ Gr w wr) (fun _ i _ => n - (intOf i).toNat)
    case atStart => exact ⟨0, by omega, rfl, by simp [growF], hg1⟩
    case round =>
      obtain ⟨j, hj, rfl, rfl, hg⟩ := hrel
      by_cases hlt : j < n
      · have hjl : j < rs.length := by omega
        obtain ⟨g, off, rfl, x0, x1⟩ := (hf.gr hg).at_ hjl
        have hfk := hf.ok _ (List.getElem_mem hjl)
        have hnm := hfk.2.1
        have hqn := hb _ (List.getElem_mem hjl)
        have hqb := hfk.1.len.out
        have hlj : l[j]'(by omega) = rs[j].fl := by simp [hl0]
        have hgr := growF_take (F := F) (l := l) (j := j) (by omega)
        rw [hlj, show rs[j].fl.2.length = rs[j].q.n from hqb, show rs[j].fl.1 = rs[j].nm from rfl] at hgr
        have h7 := hFl rs[j].nm
        have h8 := hgl j
        have h9 : (l.take j).length ≤ 255 := by rw [List.length_take]; omega
        have h10 : growF F (l.take j) ≤ 255000000 := Nat.le_trans h8 (by omega)
        have hR2 := fun W hg => HR.out W hg rs[j].nm hnm
        generalize growF F (l.take j) = t at *
        obtain ⟨t2, hT0⟩ : ∃ t2, growF F (l.take (j + 1)) = t2 := ⟨_, rfl⟩
        rw [hT0] at hgr
        have hT2 := Lib.hid hT0
        clear hT0
        generalize ((F.get rs[j].nm).getD []).length = y at *
        have hgr := Lib.hid hgr
        have HR2 := Lib.hid hR2
        clear hR2 h8 h9 hlj hqb hfk
        generalize rs[j].q.n = x at *
        go_wp2_with (go_at_call 44; refine (HR2.out _ (hg.trans' (Gr.alloc1 _ _))).mono ?_; rintro e w2 ⟨A', c', rfl, hg2⟩; have y1 := hg2.cell (show (wr.alloc (.cells #[encStr rs[j].nm, .slice rs[j].q.A x rs[j].q.c] 31)).cell? ⟨wr.heap.size, 1, none⟩ = some (.slice rs[j].q.A x rs[j].q.c) from (Row.new wr 31 [encStr rs[j].nm, .slice rs[j].q.A x rs[j].q.c]).cell 1))
        go_roundw
        case rel => exact ⟨j + 1, by omega, by go_num, by rw [hT2.out]; have := hgr.out; congr 1; omega, (hg.trans' (Gr.alloc1 _ _)).trans' hg2⟩
        case measure => simp [intOf]; omega
      · obtain rfl : j = n := by omega
        have hgr := growF_le (F := F) hlb
        have e : l.take j = l := List.take_of_length_le (by omega)
        rw [e]
        have h10 : growF F l ≤ 255000000 := Nat.le_trans hgr (by omega)
        generalize growF F l = t at *
        by_cases hfit : s.room < u + n2 + t
        · go_wp2_with (first
            | (go_at_call 45; refine (HD.out _ hg).mono ?_; rintro e w2 ⟨rfl, rfl⟩)
            | (go_at_call 59; refine (HN.out _ hg).mono ?_; rintro e w3 ⟨rfl, rfl⟩))
          go_ret
          rw [← HRES.out, if_pos hfit]
          exact ⟨rfl, hg⟩
        · go_wp2_with (first
            | (go_at_call 45; refine (HD.out _ hg).mono ?_; rintro e w2 ⟨rfl, rfl⟩)
            | (go_at_call 59; refine (HN.out _ hg).mono ?_; rintro e w3 ⟨rfl, rfl⟩))
          go_ret
          rw [← HRES.out, if_neg hfit]
          exact ⟨rfl, hg⟩
end
end Go.Proofs.Ytcfbkhgdlgnmgaa
set_option linter.unusedVariables false
set_option linter.unusedSimpArgs false
set_option maxRecDepth 100000
namespace Go.Proofs.Ytcfbkhgdlgnmgaa
open Go.RowKit Go.Maps Go.Sort
section
variable {X Z : Nat → Prop} {w w' : World} {p : Nat} {s : V} {A : Option Addr} {rs : List FlR}
structure Sd (s : V) : Prop where
  ops : s.ops ≤ 700000
  stop : s.stop ≤ 700000
theorem Sd.sc (h : Sd s) {s' : V} (h1 : s'.ops ≤ s.ops + 10000) (h2 : s'.stop ≤ s.stop) : Sc s' := ⟨by have := h.ops; omega, by have := h.stop; omega⟩
theorem bytesM_le (l : List Fl) (h : l.length ≤ 255) : (bytesM l).length ≤ 40000000 := by
  have := bytesTo_le l.length l
  rw [bytesTo_all] at this
  omega
theorem flat_le : ∀ (l : List Fl), (∀ f ∈ l, f.1.length ≤ 20 ∧ f.2.length ≤ 8000) → (l.flatMap fun f => textB f.1 ++ textB f.2).length ≤ l.length * 8024
  | [], _ => by simp
  | f :: l, h => by
    have h1 := flat_le l (fun g hg => h g (by simp [hg]))
    have h2 := h f (by simp)
    rw [List.flatMap_cons, List.length_append, List.length_append, textB_length (by omega), textB_length (by omega), List.length_cons]
    omega
theorem bytesM_small {l : List Fl} (h : mayM l = 0) : (bytesM l).length ≤ 100000 := by
  obtain ⟨h1, h2, h3⟩ := mayM_zero h
  have := flat_le l (fun f hf => ⟨(nameBad_len (mayGo_zero h3 f hf).1).2.1, (mayGo_zero h3 f hf).2⟩)
  unfold bytesM
  rw [List.length_cons]
  omega
theorem lot_kept (hz : ∀ i, Z i → ¬ X i ∧ i < w.heap.size) {w1 : World} {X1 : Nat → Prop} (hm : Mv w X w1 X1) : ∀ i, Z i → ¬ X1 i ∧ i < w1.heap.size := fun i hi => by
  have h1 := hz i hi
  refine ⟨fun hx => ?_, ?_⟩
  · rcases hm.new i hx with h2 | h2
    · exact h1.1 h2
    · omega
  · have := hm.tr.size
    omega
set_option maxHeartbeats 4000000 in
theorem commit_any (h : At w X p s) (hs0 : Sd s) (hf : FlS w Z A rs) (hz : ∀ i, Z i → ¬ X i ∧ i < w.heap.size) (c : Nat) (hl : rs.length ≤ 255) (hc : rs.length ≤ c) (hb : ∀ f ∈ rs, f.q.n ≤ 1000000) :
    Calls Try.prog 19 #[.pointer (some ⟨p, 0, none⟩), .slice A rs.length c] w fun e w' => e = .returned (.int .i64 (commitM s (rs.map FlR.fl)).2) ∧ ∃ X', At w' X' p (commitM s (rs.map FlR.fl)).1 ∧ Mv w X w' X' := by
  have hs := hs0.sc (s' := s) (by omega) (Nat.le_refl _)
  have HB := Lib.hid (bytes_any hf c hl hb)
  have HM := Lib.hid (fun W (hg : Gr w W) => may_any (hf.gr hg) c hl hc hb)
  have HFi := Lib.hid (fun (h1 : 1 ≤ rs.length) W (hg : Gr w W) A2 n2 c2 b hn2 hl2 => fits_any (h.gr hg) hs (hf.gr hg) c hl h1 hb A2 n2 c2 b hn2 hl2)
  have HPj := Lib.hid (fun W (hg : Gr w W) A2 n2 c2 b hn2 hr hl2 => put_any (h.gr hg) (hs.sl (s' := s) (by omega) (Nat.le_refl _)) jn (by decide) A2 n2 c2 b hn2 hr hl2)
  have HPm := Lib.hid (fun W X1 v (ha : At W X1 p v) (ho : v.ops ≤ s.ops + 2) (hp : v.stop ≤ s.stop) => put_any ha (hs.sl (s' := v) (by omega) hp) mk (by decide) none 0 0 [] (Lib.hid rfl) (Rd.nil _ _) (by omega))
  have HW := Lib.hid (fun W X1 v (ha : At W X1 p v) (hm : Mv w X W X1) (ho : Sc v) => cwrite_any ha ho (hf.tr hm.tr (fun i hi => (hz i hi).1)) (lot_kept hz hm) c hl hb)
  obtain ⟨l, hl0⟩ : ∃ l, l = rs.map FlR.fl := ⟨_, rfl⟩
  rw [← hl0] at HB HM HFi HW ⊢
  have hll : l.length ≤ 255 := by rw [hl0, List.length_map]; exact hl
  have hLEN : l.length = rs.length := by rw [hl0, List.length_map]
  clear hl0
  obtain ⟨R, hR⟩ : ∃ R, R = commitM s l := ⟨_, rfl⟩
  rw [← hR]
  have hbl := bytesM_le l hll
  have HRs := Lib.hid hR
  clear hR
  go_enter Try.func19, Try.ntmps19
  go_wp2_with fail
  refine wp_scope_jumps 0 (fun a W => ∃ u0 u1 u2 u3 u4 u5 u7 u8 u9 u10 u11 u12 u13 u14 u15 u16 u17 u18 u19 u20 u21 u22 u23 u24 u25 u26 u27 u28 u29 u30 u31 : Value, a = { tmps := #[u0, u1, u2, u3, u4, u5, .int .i64 R.2, u7, u8, u9, u10, u11, u12, u13, u14, u15, u16, u17, u18, u19, u20, u21, u22, u23, u24, u25, u26, u27, u28, u29, u30, u31], defers := [] } ∧ ∃ X', At W X' p R.1 ∧ Mv w X W X') (fun _ _ => 0) rfl ?_ ?_
  · obtain ⟨m, hm⟩ : ∃ m, m = mayM l := ⟨_, rfl⟩
    rw [← hm] at HM
    by_cases hm0 : m = 0
    · subst hm0
      have hbs := bytesM_small hm.symm
      have hn1 : 1 ≤ rs.length := by have := (mayM_zero hm.symm).1; omega
      have HFi2 := Lib.hid (HFi.out hn1)
      obtain ⟨m2, hm2⟩ : ∃ m2, m2 = fitsM s l (bytesM l) := ⟨_, rfl⟩
      have HFi3 := Lib.hid (fun W (hg : Gr w W) A2 n2 c2 (hn2 : (bytesM l).length = n2) hl2 => hm2 ▸ HFi2.out W hg A2 n2 c2 (bytesM l) hn2 hl2)
      clear HFi HFi2
      by_cases hm20 : m2 = 0
      · subst hm20
        have hR3 : R = V.thn (V.thn (putM s jn (bytesM l)) (putM · mk [])) (writeM · l) := by rw [HRs.out]; unfold commitM; rw [if_neg (by simp [hm.symm]), if_neg (by simp [hm2.symm])]
        have hop := putM_ops s jn (bytesM l)
        have HPj2 := Lib.hid (fun W (hg : Gr w W) A2 n2 c2 hn2 hr hl2 => HPj.out W hg A2 n2 c2 (bytesM l) hn2 hr hl2)
        clear HPj hm hm2
        generalize putM s jn (bytesM l) = r at hR3 hop HPj2
        obtain ⟨v1, e1⟩ := r
        simp only at hop HPj2
        have hop := Lib.hid hop
        by_cases he1 : e1 = 0
        · subst he1
          rw [thn_ok (r := (v1, 0)) rfl] at hR3
          have hop2 := putM_ops v1 mk []
          have HPm2 := Lib.hid (fun W X1 (ha : At W X1 p v1) => HPm.out W X1 v1 ha hop.out.1 hop.out.2)
          clear HPm
          simp only at hR3
          generalize putM v1 mk [] = r2 at hR3 hop2 HPm2
          obtain ⟨v2, e2⟩ := r2
          simp only at hop2 HPm2
          have hop2 := Lib.hid hop2
          by_cases he2 : e2 = 0
          · subst he2
            rw [thn_ok (r := (v2, 0)) rfl] at hR3
            have HRR := Lib.hid hR3
            clear hR3
            have HWv := Lib.hid (fun W X1 (ha : At W X1 p v2) (hm : Mv w X W X1) => HW.out W X1 v2 ha hm (hs0.sc (by have := hop.out.1; have := hop2.out.1; omega) (Nat.le_trans hop2.out.2 hop.out.2)))
            clear HW
            simp only at HRR
            rw [← HRR.out] at HWv
            go_wp2_with (first
              | (go_at_call 39; refine HB.out.mono ?_; rintro e w1 ⟨vb, rfl, ⟨A1, n1, c1, rfl, hn1, hr1⟩, hg1⟩)
              | (go_at_call 40; refine (HM.out _ hg1).mono ?_; rintro e w2 ⟨rfl, hg2⟩)
              | (go_at_call 41; refine (HFi3.out _ (hg1.trans' hg2) A1 n1 c1 hn1.out (by have := hn1.out; omega)).mono ?_; rintro e w3 ⟨rfl, hg3⟩)
              | (go_at_call 42; refine (HPm2.out _ _ hq4.out.1).mono ?_; rintro e w5 ⟨rfl, X5, ha5, hm5⟩; have hq5 := Lib.hid (And.intro ha5 hm5); clear ha5 hm5)
              | (go_at_call 42; refine (HPj2.out _ ((hg1.trans' hg2).trans' hg3) A1 n1 c1 hn1 ((hr1.gr hg2).gr hg3) (by have := hn1.out; omega)).mono ?_; rintro e w4 ⟨rfl, X4, ha4, hm4⟩; have hq4 := Lib.hid (And.intro ha4 hm4); clear ha4 hm4)
              | (go_at_call 43; refine (HWv.out _ _ hq5.out.1 (((Mv.of_gr ((hg1.trans' hg2).trans' hg3) X).trans hq4.out.2).trans hq5.out.2)).mono ?_; rintro e w6 ⟨rfl, X6, ha6, hm6⟩; have hq6 := Lib.hid (And.intro ha6 hm6); clear ha6 hm6))
            go_step3
            go_wp2
            try simp only [Exit.jump]
            go_ret
            exact ⟨rfl, X6, hq6.out.1, (((Mv.of_gr ((hg1.trans' hg2).trans' hg3) X).trans hq4.out.2).trans hq5.out.2).trans hq6.out.2⟩
          · have HRR := Lib.hid (show R = (v2, e2) by rw [hR3, thn_bad (r := (v2, e2)) he2])
            clear hR3
            have hbn2 : (e2 != 0) = true := by simpa using he2
            go_wp2_with (first
              | (go_at_call 39; refine HB.out.mono ?_; rintro e w1 ⟨vb, rfl, ⟨A1, n1, c1, rfl, hn1, hr1⟩, hg1⟩)
              | (go_at_call 40; refine (HM.out _ hg1).mono ?_; rintro e w2 ⟨rfl, hg2⟩)
              | (go_at_call 41; refine (HFi3.out _ (hg1.trans' hg2) A1 n1 c1 hn1.out (by have := hn1.out; omega)).mono ?_; rintro e w3 ⟨rfl, hg3⟩)
              | (go_at_call 42; refine (HPm2.out _ _ hq4.out.1).mono ?_; rintro e w5 ⟨rfl, X5, ha5, hm5⟩; have hq5 := Lib.hid (And.intro ha5 hm5); clear ha5 hm5)
              | (go_at_call 42; refine (HPj2.out _ ((hg1.trans' hg2).trans' hg3) A1 n1 c1 hn1 ((hr1.gr hg2).gr hg3) (by have := hn1.out; omega)).mono ?_; rintro e w4 ⟨rfl, X4, ha4, hm4⟩; have hq4 := Lib.hid (And.intro ha4 hm4); clear ha4 hm4))
            try go_step3
            exact ⟨rfl, _, _, _, _, _, _, _, _, _, _, _, _, _, _, _, _, _, _, _, _, _, _, _, _, _, _, _, _, _, _, _, (by rw [HRR.out]), X5, (by rw [HRR.out]; exact hq5.out.1), ((Mv.of_gr ((hg1.trans' hg2).trans' hg3) X).trans hq4.out.2).trans hq5.out.2⟩
        · have HRR := Lib.hid (show R = (v1, e1) by rw [hR3, thn_bad (r := (v1, e1)) he1, thn_bad (r := (v1, e1)) he1])
          clear hR3
          have hbn2 : (e1 != 0) = true := by simpa using he1
          go_wp2_with (first
            | (go_at_call 39; refine HB.out.mono ?_; rintro e w1 ⟨vb, rfl, ⟨A1, n1, c1, rfl, hn1, hr1⟩, hg1⟩)
            | (go_at_call 40; refine (HM.out _ hg1).mono ?_; rintro e w2 ⟨rfl, hg2⟩)
            | (go_at_call 41; refine (HFi3.out _ (hg1.trans' hg2) A1 n1 c1 hn1.out (by have := hn1.out; omega)).mono ?_; rintro e w3 ⟨rfl, hg3⟩)
            | (go_at_call 42; refine (HPj2.out _ ((hg1.trans' hg2).trans' hg3) A1 n1 c1 hn1 ((hr1.gr hg2).gr hg3) (by have := hn1.out; omega)).mono ?_; rintro e w4 ⟨rfl, X4, ha4, hm4⟩; have hq4 := Lib.hid (And.intro ha4 hm4); clear ha4 hm4))
          try go_step3
          exact ⟨rfl, _, _, _, _, _, _, _, _, _, _, _, _, _, _, _, _, _, _, _, _, _, _, _, _, _, _, _, _, _, _, _, (by rw [HRR.out]), X4, (by rw [HRR.out]; exact hq4.out.1), (Mv.of_gr ((hg1.trans' hg2).trans' hg3) X).trans hq4.out.2⟩
      · have HRR := Lib.hid (show R = (s, m2) by rw [HRs.out, hm2]; unfold commitM; rw [if_neg (by simp [hm.symm]), if_pos (by rw [← hm2]; exact hm20)])
        have hbn2 : (m2 != 0) = true := by simpa using hm20
        clear hm hm2
        go_wp2_with (first
          | (go_at_call 39; refine HB.out.mono ?_; rintro e w1 ⟨vb, rfl, ⟨A1, n1, c1, rfl, hn1, hr1⟩, hg1⟩)
          | (go_at_call 40; refine (HM.out _ hg1).mono ?_; rintro e w2 ⟨rfl, hg2⟩)
          | (go_at_call 41; refine (HFi3.out _ (hg1.trans' hg2) A1 n1 c1 hn1.out (by have := hn1.out; omega)).mono ?_; rintro e w3 ⟨rfl, hg3⟩))
        try go_step3
        exact ⟨rfl, _, _, _, _, _, _, _, _, _, _, _, _, _, _, _, _, _, _, _, _, _, _, _, _, _, _, _, _, _, _, _, (by rw [HRR.out]), X, (by rw [HRR.out]; exact h.gr ((hg1.trans' hg2).trans' hg3)), Mv.of_gr ((hg1.trans' hg2).trans' hg3) X⟩
    · have HRR := Lib.hid (show R = (s, m) by rw [HRs.out, hm]; unfold commitM; rw [if_pos (by rw [← hm]; exact hm0)])
      have hbn2 : (m != 0) = true := by simpa using hm0
      clear hm
      go_wp2_with (first
        | (go_at_call 39; refine HB.out.mono ?_; rintro e w1 ⟨vb, rfl, ⟨A1, n1, c1, rfl, hn1, hr1⟩, hg1⟩)
        | (go_at_call 40; refine (HM.out _ hg1).mono ?_; rintro e w2 ⟨rfl, hg2⟩))
      try go_step3
      exact ⟨rfl, _, _, _, _, _, _, _, _, _, _, _, _, _, _, _, _, _, _, _, _, _, _, _, _, _, _, _, _, _, _, _, (by rw [HRR.out]), X, (by rw [HRR.out]; exact h.gr (hg1.trans' hg2)), Mv.of_gr (hg1.trans' hg2) X⟩
  · rintro a W ⟨u0, u1, u2, u3, u4, u5, u7, u8, u9, u10, u11, u12, u13, u14, u15, u16, u17, u18, u19, u20, u21, u22, u23, u24, u25, u26, u27, u28, u29, u30, u31, rfl, X', ha, hm⟩
    go_wp2
    simp only [Exit.jump]
    go_ret
    exact ⟨rfl, X', ha, hm⟩
end
end Go.Proofs.Ytcfbkhgdlgnmgaa
set_option linter.unusedVariables false
set_option linter.unusedSimpArgs false
set_option maxRecDepth 100000
namespace Go.Proofs.Ytcfbkhgdlgnmgaa
open Go.RowKit Go.Maps Go.Sort Cd
section
variable {X Z : Nat → Prop} {w w' : World} {p : Nat} {s : V} {A : Option Addr} {rs : List FlR}
theorem byteS_small (s : Rs) : 0 ≤ (byteS s).1 ∧ (byteS s).1 < 256 := by
  have h := num_lt (takeS s 1).1
  have h2 : 256 ^ (takeS s 1).1.length ≤ 256 ^ 1 := Nat.pow_le_pow_right (by omega) (takeS_fst_le s 1)
  unfold byteS
  simp only
  omega
theorem textS_small (s : Rs) : (textS s).1.length ≤ 65535 := by
  have h := takeS_fst_le (takeS s 2).2 (num (takeS s 2).1)
  have h2 := num_small s 2 (by omega)
  unfold textS
  omega
set_option maxHeartbeats 1000000 in
theorem cread_any (c : Nat) (bs : Str) (hx : Rd w A (bs.map bv)) (hl : bs.length ≤ 100000000) :
    Calls Try.prog 47 #[.slice A bs.length c] w fun e w' => ∃ A' n' c' rs, e = .returned (.tuple #[.slice A' n' c', .int .i64 (readM bs).2]) ∧ FlO w' (fun i => w.heap.size ≤ i) w.heap.size A' n' c' rs ∧ rs.map FlR.fl = (readM bs).1 ∧ (∀ f ∈ rs, f.q.n ≤ 65535) ∧ Gr w w' := by
  have H0 := Lib.hid (Cd.new_any A c bs w hx (by omega))
  obtain ⟨R, hR⟩ : ∃ R, R = readM bs := ⟨_, rfl⟩
  rw [← hR]
  have HR := Lib.hid hR
  clear hR
  obtain ⟨N0, hN0⟩ : ∃ N : Nat, N = (byteS (bs, 0)).1.toNat := ⟨_, rfl⟩
  have hbsm := byteS_small (bs, 0)
  have hN1 : (byteS (bs, 0)).1 = (N0 : Int) := by omega
  have hN2 : N0 ≤ 255 := by omega
  have H1 := Lib.hid (fun g W (hs : RdrAt W g (bs, 0)) => hN1 ▸ rByte_any g (bs, 0) W hs)
  obtain ⟨s0, hs0⟩ : ∃ s0, s0 = (byteS (bs, 0)).2 := ⟨_, rfl⟩
  rw [← hs0] at H1
  have HR2 := Lib.hid (show R = if endS (readGo N0 s0 []).2 ≠ 0 ∨ mayM (readGo N0 s0 []).1 ≠ 0 then ([], 10) else ((readGo N0 s0 []).1, 0) from by rw [HR.out, hs0, hN0]; rfl)
  clear hbsm hN1 hN0 hs0 HR
  obtain ⟨i0, hi, hz0, hz1, hz2⟩ := info_parts info_cfile
  go_enter Try.func47, Try.ntmps47
  go_wp2_with (first
    | (go_at_call 68; refine H0.out.mono ?_; rintro e w1 ⟨g, rfl, hgl, hr1, hg1⟩)
    | (go_at_call 69; refine (H1.out g _ hr1).mono ?_; rintro e w2 ⟨rfl, hr2, ho2⟩))
  have hg2 : Gr w w2 := Gr.grownBk hg1 ho2 (fun g' e => by injection e with e; omega)
  have hsz2 := Lib.hid (show g < w2.heap.size from by obtain ⟨A, c, h1, _⟩ := hr2; exact h1.lt)
  have hgs2 := Lib.hid hg2.size
  clear hr1 ho2 hg1 H0 H1
  go_loopw [5, 10] (fun t i wr => ∃ j : Nat, j ≤ N0 ∧ i = .int .i64 j ∧ ∃ A' c' rs s', t = .slice A' j c' ∧ Hid (FlO wr (fun i => w.heap.size ≤ i ∧ i ≠ g) w2.heap.size A' j c' rs) ∧ Hid (RdrAt wr g s') ∧ Hid (readGo (N0 - j) s' (rs.map FlR.fl) = readGo N0 s0 []) ∧ Hid (∀ f ∈ rs, f.q.n ≤ 65535) ∧ Hid (w2.heap.size ≤ wr.heap.size) ∧ Gr w wr) (fun _ i _ => N0 - (intOf i).toNat)
  case atStart => exact ⟨0, by omega, rfl, none, 0, [], s0, rfl, Lib.hid (FlO.nil _ _ _), Lib.hid hr2, Lib.hid rfl, Lib.hid (fun f hf => by cases hf), Lib.hid (Nat.le_refl _), hg2⟩
  case round =>
    obtain ⟨j, hj, rfl, A1, c1, rs, s1, rfl, hfl, hrd, hgo, hsm, hszr', hg⟩ := hrel
    have hszr := hszr'.out
    by_cases hlt : j < N0
    · have hT := Lib.hid (fun s W (hs : RdrAt W g s) => rText_any g s W hs)
      have hn1 := textS_small s1
      have hn2 := textS_small (textS s1).2
      have hgo2 : readGo (N0 - (j + 1)) (textS (textS s1).2).2 (rs.map FlR.fl ++ [((textS s1).1, (textS (textS s1).2).1)]) = readGo N0 s0 [] := by
        rw [← hgo.out, show N0 - j = (N0 - (j + 1)) + 1 by omega]
        rfl
      have hT1 := Lib.hid (hT.out s1 wr hrd.out)
      have hT2 := Lib.hid (fun W hs => hT.out (textS s1).2 W hs)
      clear hT hgo
      have hgo3 := Lib.hid hgo2
      clear hgo2
      generalize textS s1 = o1 at *
      obtain ⟨b1, s2⟩ := o1
      simp only at hn1 hn2 hT1 hT2 hgo3
      generalize textS s2 = o2 at *
      obtain ⟨b2, s3⟩ := o2
      simp only at hn2 hT2 hgo3
      have hne : ∀ W s, RdrAt W g s → FlO W (fun i => w.heap.size ≤ i ∧ i ≠ g) w2.heap.size A1 j c1 rs → ∀ g', blkOf A1 = some g' → some g ≠ some g' := fun W s ⟨A, c, hr, _⟩ hf g' hg' e => by
        injection e with e
        subst e
        rcases hf.own.2 with ⟨e1, _⟩ | ⟨g1, rest, e1, _, hr1, _⟩
        · rw [e1] at hg'; cases hg'
        · rw [e1] at hg'
          injection hg' with hg'
          simp only at hg'
          subst hg'
          exact hr.ne hr1 (by decide) rfl
      have hne := Lib.hid hne
      have hgl := Lib.hid hgl
      go_wp2_with (first
        | (go_at_call 70; refine (hT2.out _ hr3.out).mono ?_; rintro e w4 ⟨rfl, hr4, ho4⟩
           have hf4 := hf3.out.keep ho4 (hne.out _ _ hr3.out hf3.out) (fun i hi e => by injection e with e; exact hi.2 e.symm)
           have hg4 : Gr w w4 := Gr.grownBk hg3.out ho4 (fun g' e => by injection e with e; have := hgl.out; omega)
           obtain ⟨c5, w5, hcv, hg5, hr5, hl5, hm5, hz5⟩ := conv_new (P := Try.prog) w4 9 29 5 b2 (by unfold maxLen; omega) Try.underlying9 Try.underlying29 Try.underlying5
           have hrd5 := Lib.hid (show RdrAt w5 g s3 from by obtain ⟨A, c, h1, h2, h3⟩ := hr4; exact ⟨A, c, h1.gr hg5, h2.gr hg5, h3⟩)
           have hw24 : w2.heap.size ≤ w5.heap.size := Nat.le_trans (Nat.le_trans hsz3.out ho4.size) hg5.size
           have hz4 := Lib.hid (show g < w4.heap.size from by obtain ⟨A, c, h1, _⟩ := hr4; exact h1.lt)
           have hf5 := Lib.hid (And.intro (hf4.gr hg5) (And.intro (show Rw.Ok w5 ⟨some ⟨w4.heap.size, 0, none⟩, b2.length, c5, b2⟩ from ⟨Lib.hid rfl, hr5, hl5, hm5⟩) (And.intro hz5 (And.intro (hg4.trans' hg5) (And.intro hg4.size (And.intro (fun g' e => (hf4.own.blk g' e).2) hw24))))))
           clear hf4 hg4 hg5 hr5 hl5 hm5 hz5 hr4 ho4 hf3 hr3 hg3)
        | (go_at_call 70; refine hT1.out.mono ?_; rintro e w3 ⟨rfl, hr3, ho3⟩
           have hf3 := Lib.hid (hfl.out.keep ho3 (hne.out _ _ hrd.out hfl.out) (fun i hi e => by injection e with e; exact hi.2 e.symm))
           have hg3 : Hid (Gr w w3) := Lib.hid (Gr.grownBk hg ho3 (fun g' e => by injection e with e; have := hgl.out; omega))
           have hsz3 := Lib.hid (show w2.heap.size ≤ w3.heap.size from Nat.le_trans hszr ho3.size)
           replace hr3 := Lib.hid hr3
           clear ho3 hT1)
        | (at_builtin; with_reducible refine wpList_append (o := ⟨some 20, _, _, _, _, _⟩) _ rfl _ _ 22 rfl w2.heap.size 31 i0 _ 2 40 Try.underlying22 hi hz0 hz1 hz2 rfl (by omega) A1 j c1 _ rfl (hf5.out.1.own.gr (Gr.alloc1 _ _)) _ 1 1 [encStr b1, .slice (some ⟨w4.heap.size, 0, none⟩) b2.length c5] rfl rfl (Rd.new _ [encStr b1, .slice (some ⟨w4.heap.size, 0, none⟩) b2.length c5] _) (by simp [Value.oneCell']) (by omega) (by unfold maxLen; omega) (Nat.le_trans hf5.out.2.2.2.2.2.2 (Gr.alloc1 _ _).size) ?_
           intro A6 c6 w6 ho6 hk6
           have hq6 := Lib.hid (And.intro ho6 hk6)
           clear ho6 hk6))
      go_roundw
      case rel =>
        obtain ⟨k1, k2, k3, k4, k5, k6, k7⟩ := hf5.out
        obtain ⟨q1, q2⟩ := hq6.out
        have hz4' := hz4.out
        refine ⟨j + 1, by omega, by go_num, A6, c6, rs ++ [⟨b1, ⟨some ⟨w4.heap.size, 0, none⟩, b2.length, c5, b2⟩⟩], s3, rfl, Lib.hid ?_, Lib.hid ?_, Lib.hid ?_, Lib.hid ?_, Lib.hid ?_, ?_⟩
        · exact (k1.gr (Gr.alloc1 _ _)).push (f := ⟨b1, ⟨some ⟨w4.heap.size, 0, none⟩, b2.length, c5, b2⟩⟩) (k2.gr (Gr.alloc1 _ _)) (by show b1.length ≤ maxLen; unfold maxLen; omega)
            (fun _ ad e => by
              simp only [Option.some.injEq] at e
              subst e
              refine ⟨⟨k5, ?_⟩, fun e => ?_, ?_⟩
              · show w4.heap.size ≠ g
                omega
              · have := k6 _ e
                simp only at this
                omega
              · show w4.heap.size < _
                have := (Gr.alloc1 w5 (.cells #[encStr b1, .slice (some ⟨w4.heap.size, 0, none⟩) b2.length c5] 31)).size
                have h2 : w4.heap.size < w5.heap.size := by omega
                exact Nat.lt_of_lt_of_le h2 this) q1 q2
        · obtain ⟨A, c, h1, h2, h3⟩ := hrd5.out
          have hrow := (h1.gr (Gr.alloc1 _ (.cells #[encStr b1, .slice (some ⟨w4.heap.size, 0, none⟩) b2.length c5] 31)))
          have hgb : ∀ g', blkOf A1 = some g' → g < g' := fun g' e => by have := (k1.own.blk g' e).1; have := hsz2.out; omega
          exact ⟨A, c, (q2.grown.block g hrow.lt (fun e => by have := hgb g e.symm; omega)).trans hrow, (h2.gr (Gr.alloc1 _ _)).grown q2.grown (fun h0 ad e e2 => by have := hgb _ e2; have := h3.2.2 ad e; omega), h3⟩
        · rw [List.map_append]
          exact hgo3.out
        · intro f hf
          rcases List.mem_append.1 hf with hf | hf
          · exact hsm.out f hf
          · obtain rfl := List.mem_singleton.1 hf
            exact hn2
        · exact Nat.le_trans (Nat.le_trans k7 (Gr.alloc1 _ _).size) q2.grown.size
        · exact Gr.grownBk (k4.trans' (Gr.alloc1 _ _)) q2.grown (fun g' e => Nat.le_trans hgs2.out (k1.own.blk g' e).1)
      case measure => simp [intOf]; omega
    · obtain rfl : j = N0 := by omega
      obtain ⟨hsz, _⟩ : rs.length = j ∧ True := ⟨hfl.out.len, trivial⟩
      have hgo2 := hgo.out
      rw [Nat.sub_self, show readGo 0 s1 (rs.map FlR.fl) = (rs.map FlR.fl, s1) from rfl] at hgo2
      have hR := HR2.out
      rw [← hgo2] at hR
      have HE := Lib.hid (rEnd_any g s1 wr hrd.out)
      have HM := Lib.hid (hsz ▸ may_any hfl.out.fls c1 (by omega) (by rw [hsz]; exact hfl.out.own.le.1) (fun f hf => by have := hsm.out f hf; omega))
      have hRa : endS s1 ≠ 0 ∨ mayM (rs.map FlR.fl) ≠ 0 → R = ([], 10) := fun h => hR.trans (if_pos h)
      have hRb : endS s1 = 0 → mayM (rs.map FlR.fl) = 0 → R = (rs.map FlR.fl, 0) := fun h1 h2 => hR.trans (if_neg (by rintro (h | h); exact h h1; exact h h2))
      clear hR
      generalize endS s1 = e1 at HE hRa hRb
      generalize mayM (rs.map FlR.fl) = m at HM hRa hRb
      have hfz := Lib.hid (hfl.out)
      clear hgo2 hgo HR2 hrd hfl
      by_cases he : e1 = 0
      · subst he
        by_cases hm : m = 0
        · subst hm
          have HRR := Lib.hid (hRb rfl rfl)
          clear hRa hRb
          go_wp2_with (first
            | (go_at_call 71; refine HE.out.mono ?_; rintro e w7 ⟨rfl, rfl⟩)
            | (go_at_call 40; refine HM.out.mono ?_; rintro e w8 ⟨rfl, hg8⟩))
          go_ret2
          rw [HRR.out]
          exact ⟨A1, j, c1, rs, rfl, ⟨(hfz.out.gr hg8).own.more (fun g' e => Nat.le_trans hgs2.out ((hfz.out.gr hg8).own.blk g' e).1), fun f hf => ⟨((hfz.out.gr hg8).ok f hf).1, ((hfz.out.gr hg8).ok f hf).2.1, fun h0 ad e => ⟨(((hfz.out.gr hg8).ok f hf).2.2 h0 ad e).1.1, (((hfz.out.gr hg8).ok f hf).2.2 h0 ad e).2⟩⟩⟩, rfl, hsm.out, hg.trans' hg8⟩
        · have HRR := Lib.hid (hRa (.inr hm))
          clear hRa hRb
          have hbn : (m != 0) = true := by simpa using hm
          go_wp2_with (first
            | (go_at_call 71; refine HE.out.mono ?_; rintro e w7 ⟨rfl, rfl⟩)
            | (go_at_call 40; refine HM.out.mono ?_; rintro e w8 ⟨rfl, hg8⟩))
          go_ret2
          rw [HRR.out]
          exact ⟨none, 0, 0, [], rfl, FlO.nil _ _ _, rfl, fun f hf => (by cases hf), hg.trans' hg8⟩
      · have HRR := Lib.hid (hRa (.inl he))
        clear hRa hRb
        have hbn : (e1 != 0) = true := by simpa using he
        go_wp2_with (go_at_call 71; refine HE.out.mono ?_; rintro e w7 ⟨rfl, rfl⟩)
        go_ret2
        rw [HRR.out]
        exact ⟨none, 0, 0, [], rfl, FlO.nil _ _ _, rfl, fun f hf => (by cases hf), hg⟩
end
end Go.Proofs.Ytcfbkhgdlgnmgaa
set_option linter.unusedVariables false
set_option linter.unusedSimpArgs false
set_option maxRecDepth 100000
namespace Go.Proofs.Ytcfbkhgdlgnmgaa
open Go.RowKit Go.Maps Go.Sort
section
variable {X Z : Nat → Prop} {w w' : World} {p : Nat} {s : V} {A : Option Addr} {rs : List FlR}
set_option maxHeartbeats 2000000 in
theorem recover_any (h : At w X p s) (hs : Sc s) :
    Calls Try.prog 22 #[.pointer (some ⟨p, 0, none⟩)] w fun e w' => e = .returned (.int .i64 (recoverM s).2) ∧ ∃ X', At w' X' p (recoverM s).1 ∧ Mv w X w' X' := by
  have hsl := hs.sl (s' := s) (by omega) (Nat.le_refl _)
  have HD := Lib.hid (dead_any h)
  obtain ⟨R, hR⟩ : ∃ R, R = recoverM s := ⟨_, rfl⟩
  rw [← hR]
  have HRs := Lib.hid hR
  clear hR
  cases hd : s.dead with
  | true =>
    have hR : R = (s, 15) := by rw [HRs.out]; unfold recoverM; rw [if_pos hd]
    have HRR := Lib.hid hR
    clear hR
    rw [hd] at HD
    go_enter Try.func22, Try.ntmps22
    go_wp2_with (go_at_call 45; refine HD.out.mono ?_; rintro e w1 ⟨rfl, rfl⟩)
    go_ret
    rw [HRR.out]
    exact ⟨rfl, X, h, Mv.rfl' _ _⟩
  | false =>
    rw [hd] at HD
    have HR := Lib.hid (fun W (hg : Gr w W) (m : Str) (hm : m.length ≤ maxLen) => show Calls Try.prog 44 #[.pointer (some ⟨p, 0, none⟩), encStr m] W fun e w' => ∃ A' n' c', e = .returned (.tuple #[.slice A' n' c', .bool (s.now.get m).isSome, .int .i64 0]) ∧ Hid (((s.now.get m).getD []).length = n') ∧ Rd w' A' (((s.now.get m).getD []).map bv) ∧ Gr W w' from by
      refine (read_any (h.gr hg) m hm).mono ?_
      rw [show s.read m = ((s.now.get m).getD [], (s.now.get m).isSome, 0) from by simp [V.read, hd]]
      rintro e w' ⟨A', m', c', rfl, hm', ho, hg⟩
      exact ⟨A', m', c', rfl, Lib.hid hm'.symm, ho.rd, hg⟩)
    have HJ := Lib.hid (fun W hg => HR.out W hg jn (by decide))
    have HM := Lib.hid (fun W hg => HR.out W hg mk (by decide))
    have HAW := Lib.hid (fun W (hg : Gr w W) => away_any (h.gr hg) hsl jn (by decide))
    have hroom := get_room h.1 jn
    unfold mostRoom at hroom
    clear HR
    have hRR : R = match s.now.get mk, s.now.get jn with
      | none, none => (s, 0)
      | none, some _ => awayM s jn
      | some _, none => (s, 10)
      | some _, some b => if (readM b).2 ≠ 0 then (s, (readM b).2) else writeM s (readM b).1 := by
      rw [HRs.out]; unfold recoverM; rw [if_neg (by simp [hd])]; try (cases s.now.get mk <;> cases s.now.get jn <;> rfl)
    cases hm : s.now.get mk with
    | none =>
      cases hj : s.now.get jn with
      | none =>
        rw [hm, hj] at hRR
        rw [hm] at HM
        rw [hj] at HJ
        have HRR := Lib.hid hRR
        clear hRR hm hj
        go_enter Try.func22, Try.ntmps22
        go_wp2_with (first
          | (go_at_call 45; refine HD.out.mono ?_; rintro e w1 ⟨rfl, hw1⟩; subst hw1; clear HD)
          | (go_at_call 44; refine (HJ.out _ hg2.out).mono ?_; rintro e w3 ⟨A3, n3, c3, rfl, hn3, hr3, hg3⟩; replace hg3 := Lib.hid (hg2.out.trans' hg3))
          | (go_at_call 44; refine (HM.out _ (Gr.rfl' _)).mono ?_; rintro e w2 ⟨A2, n2, c2, rfl, hn2, hr2, hg2⟩; replace hg2 := Lib.hid hg2))
        go_ret
        rw [HRR.out]
        exact ⟨rfl, X, h.gr hg3.out, Mv.of_gr hg3.out X⟩
      | some b =>
        rw [hm, hj] at hRR
        rw [hm] at HM
        rw [hj] at HJ
        simp only at hRR
        rw [← hRR] at HAW
        clear hRR hm hj
        go_enter Try.func22, Try.ntmps22
        go_wp2_with (first
          | (go_at_call 45; refine HD.out.mono ?_; rintro e w1 ⟨rfl, hw1⟩; subst hw1; clear HD)
          | (go_at_call 44; refine (HJ.out _ hg2.out).mono ?_; rintro e w3 ⟨A3, n3, c3, rfl, hn3, hr3, hg3⟩; replace hg3 := Lib.hid (hg2.out.trans' hg3))
          | (go_at_call 44; refine (HM.out _ (Gr.rfl' _)).mono ?_; rintro e w2 ⟨A2, n2, c2, rfl, hn2, hr2, hg2⟩; replace hg2 := Lib.hid hg2)
          | (go_at_call 46; refine (HAW.out _ hg3.out).mono ?_; rintro e w4 ⟨rfl, X4, ha4, hm4⟩))
        go_ret
        exact ⟨rfl, X4, ha4, (Mv.of_gr hg3.out X).trans hm4⟩
    | some x =>
      cases hj : s.now.get jn with
      | none =>
        rw [hm, hj] at hRR
        rw [hm] at HM
        rw [hj] at HJ
        have HRR := Lib.hid hRR
        clear hRR hm hj
        go_enter Try.func22, Try.ntmps22
        go_wp2_with (first
          | (go_at_call 45; refine HD.out.mono ?_; rintro e w1 ⟨rfl, hw1⟩; subst hw1; clear HD)
          | (go_at_call 44; refine (HJ.out _ hg2.out).mono ?_; rintro e w3 ⟨A3, n3, c3, rfl, hn3, hr3, hg3⟩; replace hg3 := Lib.hid (hg2.out.trans' hg3))
          | (go_at_call 44; refine (HM.out _ (Gr.rfl' _)).mono ?_; rintro e w2 ⟨A2, n2, c2, rfl, hn2, hr2, hg2⟩; replace hg2 := Lib.hid hg2))
        go_ret
        rw [HRR.out]
        exact ⟨rfl, X, h.gr hg3.out, Mv.of_gr hg3.out X⟩
      | some b =>
        rw [hm, hj] at hRR
        rw [hm] at HM
        rw [hj] at HJ hroom
        simp only [Option.getD_some] at hRR HJ hroom
        have HRD := Lib.hid (fun W A c (hr : Rd W A (b.map bv)) => cread_any (A := A) (w := W) c b hr (by omega))
        have hm8 : (readM b).2 = 0 → (readM b).1.length ≤ 255 := fun e => by
          unfold readM at e ⊢
          simp only at e ⊢
          split at e
          · cases e
          · rename_i hne
            rw [if_neg hne]
            have := mayM_zero (Decidable.of_not_not fun hh => hne (.inr hh))
            simp only
            omega
        have HWr := Lib.hid (fun W (hg : Gr w W) A n c (rs : List FlR) W' (hg' : Gr W W') (hf : FlO W' (fun i => W.heap.size ≤ i) W.heap.size A n c rs) (hl : rs.length ≤ 255) (hb : ∀ f ∈ rs, f.q.n ≤ 65535) => show Calls Try.prog 43 #[.pointer (some ⟨p, 0, none⟩), .slice A n c] W' fun e w' => e = .returned (.int .i64 (writeM s (rs.map FlR.fl)).2) ∧ ∃ X', At w' X' p (writeM s (rs.map FlR.fl)).1 ∧ Mv W' X w' X' from by
          have hln := hf.len
          subst hln
          refine cwrite_any (h.gr (hg.trans' hg')) hs hf.fls (fun i hi => ⟨fun hx => ?_, hi.2⟩) c hl (fun f hf' => by have := hb f hf'; omega)
          have h1 := h.lt i hx
          have h2 := hg.size
          rcases hi.1 with h3 | h3
          · omega
          · have := (hf.own.blk i h3).1
            omega)
        clear HAW hm hj
        generalize readM b = q at hRR hm8 HRD
        obtain ⟨l, e0⟩ := q
        simp only at hRR hm8 HRD
        by_cases he : e0 = 0
        · subst he
          rw [if_neg (by simp)] at hRR
          have HRR := Lib.hid hRR
          clear hRR
          have hm8 := hm8 rfl
          go_enter Try.func22, Try.ntmps22
          go_wp2_with (first
            | (go_at_call 45; refine HD.out.mono ?_; rintro e w1 ⟨rfl, hw1⟩; subst hw1; clear HD)
            | (go_at_call 44; refine (HJ.out _ hg2.out).mono ?_; rintro e w3 ⟨A3, n3, c3, rfl, hn3, hr3, hg3⟩; replace hg3 := Lib.hid (hg2.out.trans' hg3); have hn3' := hn3.out; subst hn3')
            | (go_at_call 44; refine (HM.out _ (Gr.rfl' _)).mono ?_; rintro e w2 ⟨A2, n2, c2, rfl, hn2, hr2, hg2⟩; replace hg2 := Lib.hid hg2)
            | (go_at_call 47; refine (HRD.out _ A3 c3 hr3).mono ?_; rintro e w4 ⟨A4, n4, c4, rs, rfl, hf4, hl4, hb4, hg4⟩; replace hf4 := Lib.hid hf4; replace hl4 := Lib.hid hl4; replace hb4 := Lib.hid hb4; replace hg4 := Lib.hid hg4)
            | (go_at_call 43; refine (HWr.out _ hg3.out _ _ _ rs _ hg4.out hf4.out (by have := congrArg List.length hl4.out; rw [List.length_map] at this; omega) hb4.out).mono ?_; rw [hl4.out, ← HRR.out]; rintro e w5 ⟨rfl, X5, ha5, hm5⟩))
          go_ret
          exact ⟨rfl, X5, ha5, (Mv.of_gr (hg3.out.trans' hg4.out) X).trans hm5⟩
        · rw [if_pos he] at hRR
          have HRR := Lib.hid hRR
          clear hRR
          have hbn : (e0 != 0) = true := by simpa using he
          go_enter Try.func22, Try.ntmps22
          go_wp2_with (first
            | (go_at_call 45; refine HD.out.mono ?_; rintro e w1 ⟨rfl, hw1⟩; subst hw1; clear HD)
            | (go_at_call 44; refine (HJ.out _ hg2.out).mono ?_; rintro e w3 ⟨A3, n3, c3, rfl, hn3, hr3, hg3⟩; replace hg3 := Lib.hid (hg2.out.trans' hg3); have hn3' := hn3.out; subst hn3')
            | (go_at_call 44; refine (HM.out _ (Gr.rfl' _)).mono ?_; rintro e w2 ⟨A2, n2, c2, rfl, hn2, hr2, hg2⟩; replace hg2 := Lib.hid hg2)
            | (go_at_call 47; refine (HRD.out _ A3 c3 hr3).mono ?_; rintro e w4 ⟨A4, n4, c4, rs, rfl, hf4, hl4, hb4, hg4⟩; replace hg4 := Lib.hid hg4))
          go_ret
          rw [HRR.out]
          exact ⟨rfl, X, (h.gr hg3.out).gr hg4.out, Mv.of_gr (hg3.out.trans' hg4.out) X⟩
end
end Go.Proofs.Ytcfbkhgdlgnmgaa
set_option linter.unusedVariables false
set_option linter.unusedSimpArgs false
set_option maxRecDepth 100000
namespace Go.Proofs.Ytcfbkhgdlgnmgaa
open Go.RowKit Go.Maps Go.Sort
theorem FlS.nil (w : World) (Z : Nat → Prop) (A : Option Addr) : FlS w Z A [] := ⟨Rd.nil _ _, fun h => absurd h (by simp), fun f hf => by cases hf⟩
theorem kn_c : commitM (V.new 100) [] = (V.new 100, 1) := by rfl
def kn1 : V := ⟨[(jn, [1])], [], [⟨jn, [1], false⟩], 100, 0, 1, false⟩
theorem kn1_eq : (V.new 100).write jn [1] = (kn1, 0) := by rfl
def kn2 : V := ⟨[], [], [], 100, 0, 3, false⟩
theorem kn2_eq : recoverM kn1 = (kn2, 0) := by rfl
set_option maxHeartbeats 2000000 in
theorem known_any (w : World) : Calls Try.prog 10 #[] w fun e w' => e = .returned (.bool true) ∧ Gr w w' := by
  go_enter Try.func10, Try.ntmps10
  go_wp2_with (first
    | (go_at_call 16; refine (new_any 100 w).mono ?_; rintro e w1 ⟨p, X, rfl, ha, hg, hx⟩
       have hS := Lib.hid (Sv.new ha hg hx)
       have HC := Lib.hid (commit_any (A := none) (rs := []) (Z := fun _ => False) hS.out.at_ ⟨Nat.zero_le _, Nat.zero_le _⟩ (FlS.nil _ _ _) (fun i hi => hi.elim) 0 (by simp) (by simp) (fun f hf => by cases hf))
       rw [List.map_nil, kn_c] at HC
       clear ha hg hx)
    | (go_at_call 19; refine HC.out.mono ?_; rintro e w2 ⟨rfl, X2, ha, hm⟩
       have hS2 := Lib.hid (hS.out.step ha hm)
       have hS3 := Lib.hid (hS2.out.more (Gr.alloc1 w2 (.cells #[.int .u8 1] 5)))
       have HW := Lib.hid (write_any hS3.out.at_ ⟨Nat.zero_le _, Nat.zero_le _⟩ jn (by decide) (some ⟨w2.heap.size, 0, none⟩) 1 1 [1] (Lib.hid rfl) (Rd.of_row' (t := 5) (Row.new w2 5 [.int .u8 1])) (by omega))
       rw [kn1_eq] at HW
       clear ha hm HC hS hS2)
    | (go_at_call 17; refine HW.out.mono ?_; rintro e w4 ⟨rfl, X4, ha, hm⟩
       have hS4 := Lib.hid (hS3.out.step ha hm)
       have HR := Lib.hid (recover_any hS4.out.at_ ⟨by decide, by decide⟩)
       rw [kn2_eq] at HR
       clear HW hS3 ha hm)
    | (go_at_call 22; refine HR.out.mono ?_; rintro e w5 ⟨rfl, X5, ha, hm⟩
       have hS5 := Lib.hid (hS4.out.step ha hm)
       have HN := Lib.hid (names_any hS5.out.at_ ⟨by decide, by decide⟩)
       clear HR hS4 ha hm)
    | (go_at_call 23; refine HN.out.mono ?_; rintro e w6 ⟨A6, n6, c6, rfl, rfl, ho, hg⟩
       have hS6 := Lib.hid (hS5.out.more hg)
       clear HN ho hg hS5))
  go_ret
  exact ⟨rfl, hS6.out.gr⟩
end Go.Proofs.Ytcfbkhgdlgnmgaa
