/- Words for memory: rows known whole, slices that read as lists, worlds that grow. -/
import Derived.WalkKit
import Derived.WalkSpells
import Derived.WalkLawsBesides
import Derived.OwnWalk
import Derived.Below
import Derived.Lib.Hide
import Derived.Laws.CopyOwn
import Derived.Deep.Draws
import Derived.Laws.BytesArg
import Derived.Lib.ConvBytes
import Derived.Lib.Strings
import Derived.Lib.IndexBytes
import Derived.Laws.BitsAllLaws
import Derived.Laws.Bits64
import Derived.KernelRfl
set_option linter.unusedVariables false
set_option linter.unusedSimpArgs false
namespace Go.Proofs.Ytopellbmmkflgaa
open Go.RowKit

/-! ### Worlds -/
abbrev Gr (w w' : World) : Prop := Below w.heap.size w w'
theorem Gr.rfl' (w : World) : Gr w w := Below.refl _ _
theorem Gr.trans' {a b c : World} (h : Gr a b) (k : Gr b c) : Gr a c := h.trans (k.mono h.size)
theorem Gr.cell {w w' : World} (h : Gr w w') {a : Addr} {v : Value} (hc : w.cell? a = some v) : w'.cell? a = some v := (Below.cell h (World.block_lt_of_cell? w a hc)).trans hc
theorem Gr.draw (w : World) : Gr w w.drew := (Below.refl _ _).drew
theorem Gr.drawN (w : World) (n : Nat) : Gr w (w.drewN n) := ⟨rfl, rfl, rfl, Nat.le_refl _, fun _ _ => rfl⟩
theorem Gr.alloc1 (w : World) (o : Obj) : Gr w (w.alloc o) := (Below.refl _ _).alloc (Nat.le_refl _) o
theorem below_drewN {B : Nat} {a w : World} (h : Below B a w) (n : Nat) : Below B a (w.drewN n) := ⟨h.os, h.tape, h.output, h.size, h.block⟩
theorem Below.andGr {B : Nat} {a b c : World} (h : Below B a b) (k : Gr b c) (hB : B ≤ b.heap.size) : Below B a c := h.trans (k.mono hB)

/-! ### A row that is known whole -/
def Row (w : World) (g : Nat) (t : TypeId) (xs : List Value) : Prop := w.heap[g]? = some (.cells xs.toArray t (0, 0))
section
variable {w w' : World} {g : Nat} {t : TypeId} {xs : List Value}
theorem Row.lt (h : Row w g t xs) : g < w.heap.size := (Array.getElem?_eq_some_iff.1 h).1
theorem Row.cell (h : Row w g t xs) (i : Nat) : w.cell? ⟨g, i, none⟩ = xs[i]? := by
  rw [cell_of_row w g i xs.toArray t (0, 0) h]; simp
theorem Row.frozen (h : Row w g t xs) (i : Nat) : w.frozen? ⟨g, i, none⟩ = false := by
  unfold Row at h
  simp [World.frozen?, h]
theorem Row.drew (h : Row w g t xs) : Row w.drew g t xs := h
theorem Row.drewN (h : Row w g t xs) (n : Nat) : Row (w.drewN n) g t xs := h
theorem Row.alloc (h : Row w g t xs) (o : Obj) : Row (w.alloc o) g t xs := (Below.heap_alloc w o g h.lt).trans h
theorem Row.new (w : World) (t : TypeId) (xs : List Value) : Row (w.alloc (.cells xs.toArray t)) w.heap.size t xs := heap_alloc_new w _
theorem Row.set (h : Row w g t xs) (i : Nat) (u : Value) : Row (w.setCell ⟨g, i, none⟩ u) g t (xs.set i u) := by
  unfold Row at h ⊢
  simp [World.setCell, Array.getElem?_modify, h]
theorem Row.far (h : Row w g t xs) {p : Addr} (hp : g ≠ p.block) (u : Value) : Row (w.setCell p u) g t xs := (Below.heap_setCell w p u g hp).trans h
theorem Row.below {B : Nat} (h : Row w g t xs) (hb : Below B w w') (hg : g < B) : Row w' g t xs := (hb.block g hg).trans h
theorem Row.gr (h : Row w g t xs) (hb : Gr w w') : Row w' g t xs := h.below hb h.lt
theorem Row.ne {g' : Nat} {t' : TypeId} {ys : List Value} (h : Row w g t xs) (h' : Row w g' t' ys) (hne : t ≠ t') : g ≠ g' := by
  rintro rfl
  unfold Row at h h'
  rw [h] at h'
  injection h' with h'
  injection h' with _ ht
  exact hne ht
end

/-! ### A slice that reads as a list of one-cell elements -/
theorem block_of_add (a : Addr) (n : Nat) : (a.add n).block = a.block := by unfold Addr.add; split <;> rfl
theorem add_of_add (a : Addr) (i j : Nat) : (a.add i).add j = a.add (i + j) := by
  unfold Addr.add
  by_cases hi : i = 0 <;> by_cases hj : j = 0 <;> simp [hi, hj, Nat.add_assoc]
theorem add_plain (g j : Nat) : (⟨g, 0, none⟩ : Addr).add j = ⟨g, j, none⟩ := by unfold Addr.add; split <;> simp_all
theorem add_plain' (g i j : Nat) : (⟨g, i, none⟩ : Addr).add j = ⟨g, i + j, none⟩ := by unfold Addr.add; split <;> simp_all

def Rd (w : World) (A : Option Addr) (xs : List Value) : Prop := ∀ j u, xs[j]? = some u → ∃ ad, A = some ad ∧ w.cell? (ad.add j) = some u
section
variable {w w' : World} {A : Option Addr} {xs : List Value}
theorem Rd.nil (w : World) (A : Option Addr) : Rd w A [] := fun j u h => by simp at h
theorem Rd.gr (h : Rd w A xs) (hb : Gr w w') : Rd w' A xs := fun j u hu => by
  obtain ⟨ad, e, hc⟩ := h j u hu
  exact ⟨ad, e, hb.cell hc⟩
theorem Rd.below {B : Nat} (h : Rd w A xs) (hb : Below B w w') (hB : ∀ ad, A = some ad → ad.block < B) : Rd w' A xs := fun j u hu => by
  obtain ⟨ad, e, hc⟩ := h j u hu
  exact ⟨ad, e, (Below.cell hb (by rw [block_of_add]; exact hB ad e)).trans hc⟩
theorem Rd.drew (h : Rd w A xs) : Rd w.drew A xs := h
theorem Rd.drewN (h : Rd w A xs) (n : Nat) : Rd (w.drewN n) A xs := h
theorem Rd.of_row {g : Nat} {t : TypeId} {ys : List Value} (h : Row w g t (xs ++ ys)) : Rd w (some ⟨g, 0, none⟩) xs := fun j u hu => by
  have hl := (List.getElem?_eq_some_iff.1 hu).1
  exact ⟨_, rfl, by rw [add_plain, h.cell, List.getElem?_append_left hl]; exact hu⟩
theorem Rd.of_row' {g : Nat} {t : TypeId} (h : Row w g t xs) : Rd w (some ⟨g, 0, none⟩) xs := Rd.of_row (ys := []) (by simpa using h)
theorem Rd.at_ (h : Rd w A xs) {k : Nat} (hk : k < xs.length) : ∃ ad, A = some ad ∧ w.cell? (ad.add k) = some xs[k] := h k _ (List.getElem?_eq_getElem hk)
theorem Rd.take (h : Rd w A xs) (k : Nat) : Rd w A (xs.take k) := fun j u hu => by
  rw [List.getElem?_take] at hu
  split at hu
  · exact h j u hu
  · cases hu
theorem Rd.drop (h : Rd w A xs) (k : Nat) : Rd w (A.map (·.add k)) (xs.drop k) := fun j u hu => by
  rw [List.getElem?_drop] at hu
  obtain ⟨ad, rfl, hc⟩ := h _ u hu
  exact ⟨_, rfl, by rw [add_of_add]; exact hc⟩
/-- The model's cut 's[k:]': at k = cap the address stays. -/
theorem Rd.cut (h : Rd w A xs) {k cap : Nat} (hk : k ≤ xs.length) (hc : xs.length ≤ cap) : Rd w (if cap = k then A else A.map (·.add k)) (xs.drop k) := by
  by_cases e : cap = k
  · have : xs.drop k = [] := List.drop_eq_nil_of_le (by omega)
    rw [this]
    exact Rd.nil _ _
  · rw [if_neg e]
    exact h.drop k
end

/-! ### Bytes -/
def bv (b : UInt8) : Value := .int .u8 (b.toNat : Int)
theorem bv_one (l : List UInt8) : ∀ u ∈ l.map bv, u.oneCell' = true := by
  intro u hu
  obtain ⟨b, _, rfl⟩ := List.mem_map.1 hu
  rfl
/-- A number as so many bytes, the lowest first. -/
def le (v n : Nat) : List UInt8 := (List.range n).map fun i => UInt8.ofNat (v / 2 ^ (8 * i))
theorem le_length (v n : Nat) : (le v n).length = n := by simp [le]

theorem bv_ne_slice (b : UInt8) (A : Option Addr) (n c : Nat) : bv b ≠ .slice A n c := by unfold bv; intro h; cases h
theorem bv_ne_int (b : UInt8) (n : Int) : bv b ≠ .int .i64 n := by unfold bv; intro h; cases h
/-- What holds no byte is not where bytes lie. -/
theorem Rd.ne_row {w : World} {A : Option Addr} {bs : List UInt8} {g : Nat} {t : TypeId} {cs : List Value} (h : Rd w A (bs.map bv)) (hr : Row w g t cs) (hcs : ∀ c ∈ cs, ∀ b, bv b ≠ c)
    {j : Nat} {u : Value} (hu : (bs.map bv)[j]? = some u) : ∃ ad, A = some ad ∧ w.cell? (ad.add j) = some u ∧ ad.block ≠ g := by
  obtain ⟨ad, rfl, hc⟩ := h j u hu
  refine ⟨ad, rfl, hc, fun e => ?_⟩
  have hb : (ad.add j).block = g := by rw [block_of_add]; exact e
  rw [List.getElem?_map] at hu
  obtain ⟨b, _, rfl⟩ := Option.map_eq_some_iff.1 hu
  unfold World.cell? at hc
  rw [hb] at hc
  unfold Row at hr
  rw [hr] at hc
  simp only [] at hc
  split at hc
  · cases hc
  · have hm : bv b ∈ cs := by
      have := List.mem_of_getElem? (by simpa using hc : cs[(ad.add j).off]? = some (bv b))
      exact this
    exact hcs _ hm b rfl
theorem Rd.keep {w w' : World} {A : Option Addr} {bs : List UInt8} {g : Nat} {t : TypeId} {cs : List Value} (h : Rd w A (bs.map bv)) (hr : Row w g t cs) (hcs : ∀ c ∈ cs, ∀ b, bv b ≠ c)
    (hg : w.grownBy w' (some g)) : Rd w' A (bs.map bv) := fun j u hu => by
  obtain ⟨ad, rfl, hc, hne⟩ := h.ne_row hr hcs hu
  refine ⟨ad, rfl, ?_⟩
  exact hg.cell hc (by rw [block_of_add]; intro e; injection e with e; exact hne e)

/-- The same, the cells lying outside block g. -/
def RdN (w : World) (g : Nat) (A : Option Addr) (xs : List Value) : Prop := ∀ j u, xs[j]? = some u → ∃ ad, A = some ad ∧ w.cell? (ad.add j) = some u ∧ ad.block ≠ g
theorem RdN.rd {w : World} {g : Nat} {A : Option Addr} {xs : List Value} (h : RdN w g A xs) : Rd w A xs := fun j u hu => by
  obtain ⟨ad, e, hc, _⟩ := h j u hu
  exact ⟨ad, e, hc⟩
theorem RdN.only {w w' : World} {g : Nat} {A : Option Addr} {xs : List Value} (h : RdN w g A xs) (hg : w.grownBy w' (some g)) : RdN w' g A xs := fun j u hu => by
  obtain ⟨ad, e, hc, hne⟩ := h j u hu
  exact ⟨ad, e, hg.cell hc (by rw [block_of_add]; intro e; injection e with e; exact hne e), hne⟩
theorem RdN.gr {w w' : World} {g : Nat} {A : Option Addr} {xs : List Value} (h : RdN w g A xs) (hb : Gr w w') : RdN w' g A xs := fun j u hu => by
  obtain ⟨ad, e, hc, hne⟩ := h j u hu
  exact ⟨ad, e, hb.cell hc, hne⟩
theorem Rd.apart {w : World} {A : Option Addr} {bs : List UInt8} {g : Nat} {t : TypeId} {cs : List Value} (h : Rd w A (bs.map bv)) (hr : Row w g t cs) (hcs : ∀ c ∈ cs, ∀ b, bv b ≠ c) : RdN w g A (bs.map bv) :=
  fun j u hu => h.ne_row hr hcs hu
theorem RdN.of_lt {w : World} {A : Option Addr} {xs : List Value} {g : Nat} (h : Rd w A xs) (hA : ∀ ad, A = some ad → ad.block ≠ g) : RdN w g A xs := fun j u hu => by
  obtain ⟨ad, e, hc⟩ := h j u hu
  exact ⟨ad, e, hc, hA ad e⟩

/-- string(b) -/
theorem run_str {P : Program} {w : World} {A : Option Addr} {bs : List UInt8} (h : Rd w A (bs.map bv)) (src dst e : TypeId) (n c : Nat) (hn : n = bs.length)
    (hs : P.underlying src = some (.slice e)) (he : P.underlying e = some (.int .u8)) (hd : P.underlying dst = some .string) :
    (convert src dst (.slice A n c)).run P w = .ok (.string ⟨bs.toArray⟩) w := by
  subst hn
  cases A with
  | none =>
    have : bs = [] := by
      cases hb : bs with
      | nil => rfl
      | cons x r =>
        rw [hb] at h
        obtain ⟨ad, e, _⟩ := h 0 (bv x) (by simp)
        cases e
    subst this
    exact run_convert_bytes_nil w src e hs he _ _ dst hd
  | some a =>
    have hl : (loadCells a bs.length).run P w = .ok ((bs.map fun b => (b.toNat : Int)).map (Value.int .u8)).toArray w := by
      have := run_loadCells_list (P := P) w a (bs.map bv) (fun j v hj => by
        obtain ⟨ad, e, hc⟩ := h j v hj
        injection e with e
        subst e
        exact hc)
      simp only [List.length_map] at this
      rw [this]
      congr 2
      simp [bv]
    rw [run_convert_bytes_string w src dst e _ _ c hs he hd, run_bytesToString w a _ c _ hl, foldl_push_bytes]
    have e1 : (bs.map fun b => (b.toNat : Int)).map (fun n => UInt8.ofNat n.toNat) = bs := by
      rw [List.map_map]
      have : ((fun n : Int => UInt8.ofNat n.toNat) ∘ fun b : UInt8 => (b.toNat : Int)) = id := by funext b; simp
      rw [this, List.map_id]
    rw [e1]
    simp [ByteArray.empty, ByteArray.emptyWithCapacity]
    rfl

/-! ### Only one old block turns -/
theorem only_refl (w : World) (g : Option Nat) : w.grownBy w g := ⟨rfl, rfl, rfl, Nat.le_refl _, fun _ _ _ => rfl⟩
theorem only_trans {a b c : World} {g : Option Nat} (h : a.grownBy b g) (k : b.grownBy c g) : a.grownBy c g :=
  ⟨k.os.trans h.os, k.tape.trans h.tape, k.output.trans h.output, Nat.le_trans h.size k.size, fun i hi hne => (k.block i (Nat.lt_of_lt_of_le hi h.size) hne).trans (h.block i hi hne)⟩
theorem only_of_gr {a b : World} (h : Gr a b) (g : Option Nat) : a.grownBy b g := ⟨h.os, h.tape, h.output, h.size, fun i hi _ => h.block i hi⟩
theorem only_set (w : World) (g i : Nat) (u : Value) : w.grownBy (w.setCell ⟨g, i, none⟩ u) (some g) :=
  ⟨rfl, rfl, rfl, by simp [World.setCell], fun k _ hne => Below.heap_setCell w _ u k (fun e => hne (by rw [e]))⟩
theorem only_gr {a b : World} (h : a.grownBy b none) : Gr a b := ⟨h.os, h.tape, h.output, h.size, fun i hi => h.block i hi (by simp)⟩
theorem only_below {a b : World} {g B : Nat} (h : a.grownBy b (some g)) (hB : B ≤ a.heap.size) (hg : B ≤ g) : Below B a b :=
  ⟨h.os, h.tape, h.output, h.size, fun i hi => h.block i (by omega) (by intro e; injection e with e; omega)⟩
theorem Row.only {w w' : World} {g h : Nat} {t : TypeId} {xs : List Value} (hr : Row w g t xs) (ho : w.grownBy w' (some h)) (hne : g ≠ h) : Row w' g t xs :=
  (ho.block g hr.lt (by intro e; injection e with e; exact hne e)).trans hr

/-! ### make([]T, n) where an element is one cell -/
theorem made_one (z : Value) (h : z.cells = #[z]) (n : Nat) : madeCells z.cells (n * 1) = (List.replicate n z).toArray := by
  rw [h]
  apply Array.ext
  · simp [madeCells]
  · intro i h1 h2
    simp [madeCells, Nat.mod_one]
theorem wpList_make_row {P : Program} (w : World) {ops : Array Oper} {rest : List Oper} {o : Oper} {a : Act} {Q : Exit → Act → World → Prop}
    (hg : o.guard = none) (l c : Operand) (t : TypeId) (hop : o.op = Op.makeSlice t l c)
    (e : TypeId) (i : TypeInfo) (z : Value) (h1 : P.underlying t = some (.slice e)) (h2 : P.info? e = some i) (h3 : i.zero = some z) (h4 : i.size = 1) (hz : z.cells = #[z])
    (kl kc : IntKind) (L C : Int) (n : Nat) (hl : a.eval l = .int kl L) (hc : a.eval c = .int kc C) (hL : L = (n : Int)) (hC : C = (n : Int)) (b2 : i.bytes * n ≤ 281474976710656) (b3 : n ≤ maxLen)
    (hK : ∀ w', Row w' w.heap.size e (List.replicate n z) → Gr w w' → w.heap.size < w'.heap.size → wpList P ops Q rest (a.put o.dst (.slice (some ⟨w.heap.size, 0, none⟩) n n)) w') :
    wpList P ops Q (o :: rest) a w := by
  refine wpList_plain hg fun K hK' => ?_
  have b2' : (i.bytes : Int) * (n : Int) ≤ 281474976710656 := by
    have h : ((i.bytes * n : Nat) : Int) ≤ 281474976710656 := by omega
    rwa [Int.natCast_mul] at h
  have hr := run_make (P := P) w t e i z h1 h2 h3 kl kc n n (by omega) (by omega) b2' (by unfold maxLen at b3; omega)
  simp only [Int.toNat_natCast, h4, made_one z hz] at hr
  subst hL
  subst hC
  unfold Oper.wp
  simp [execOp, hop, hl, hc, hr, Result.andThen]
  exact hK' _ _ (hK _ (Row.new w e _) ((Below.refl _ _).alloc (Nat.le_refl _) _) (by simp))

/-! ### copy into a row that is known whole -/
theorem wpList_copy_row {P : Program} {w : World} {ops : Array Oper} {rest : List Oper} {o : Oper} {a : Act} {Q : Exit → Act → World → Prop} (hgd : o.guard = none) (d s : Operand) (dT sT : TypeId)
    (ho : o.op = .call { callee := .builtin .copy, args := #[d, s], argTypes := #[dT, sT] }) (elem : TypeId) (hu : P.underlying dT = some (.slice elem)) (hsz : (P.info? elem).map (·.size) = some 1)
    (dp sp : Option Addr) (dLen dCap sLen sCap : Nat) (hd : a.eval d = .slice dp dLen dCap) (hs : a.eval s = .slice sp sLen sCap)
    (g off : Nat) (cur : List Value) (t : TypeId) (hg : Row w g t cur) (cs : List Value) (hn : cs.length = Nat.min sLen dLen)
    (hdp : 0 < cs.length → dp = some ⟨g, off, none⟩) (hsrc : Rd w sp cs)
    (hfit : off + cs.length ≤ cur.length) (h1 : ∀ v ∈ cs, v.oneCell' = true) (B : Nat) (w0 : World) (hb : Below B w0 w) (hBg : B ≤ g)
    (h : ∀ w', Row w' g t (splice cur off cs) → Below B w0 w' → wpList P ops Q rest (a.put o.dst (goInt cs.length)) w') :
    wpList P ops Q (o :: rest) a w :=
  wpList_copy_splice hgd d s dT sT ho elem hu hsz dp sp dLen dCap sLen sCap hd hs g off cur t hg cs hn
    (fun hp => ⟨hdp hp, by
      cases hcs : cs with
      | nil => rw [hcs] at hp; simp at hp
      | cons x r =>
        obtain ⟨ad, rfl, _⟩ := hsrc 0 x (by simp [hcs])
        refine ⟨ad, rfl, fun j v hj => ?_⟩
        obtain ⟨ad', e, hc⟩ := hsrc j v (by rw [hcs]; exact hj)
        injection e with e
        subst e
        exact hc⟩) hfit h1 B w0 hb hBg (fun w' hw hb' => h w' hw.out hb')

/-! ### []byte(s), at the operation -/
theorem gr_bytes (w : World) (e : TypeId) (s : ByteArray) : Gr w (Lib.bytesWorld w e s) :=
  ⟨by simp [Lib.bytesWorld, World.freeze, World.alloc, World.drew, -World.alloc_eq, -World.drew_eq], by simp [Lib.bytesWorld, World.freeze, World.alloc, World.drew, -World.alloc_eq, -World.drew_eq],
    by simp [Lib.bytesWorld, World.freeze, World.alloc, World.drew, -World.alloc_eq, -World.drew_eq], by rw [Lib.bytesWorld_size]; omega, fun k hk => Lib.bytesWorld_at_old w e s k hk⟩
theorem rd_bytes (w : World) (e : TypeId) (s : ByteArray) : Rd (Lib.bytesWorld w e s) (some ⟨w.heap.size, 0, none⟩) (s.data.toList.map bv) := fun j u hu => by
  rw [List.getElem?_map] at hu
  obtain ⟨b, hb, rfl⟩ := Option.map_eq_some_iff.1 hu
  have hj : j < s.size := by
    have := (List.getElem?_eq_some_iff.1 hb).1
    simpa using this
  refine ⟨_, rfl, ?_⟩
  rw [add_plain, Lib.bytesWorld_cell w e s j hj]
  simp only [List.getD, hb, Option.getD_some, bv]
theorem wp_conv_bytes {P : Program} {w : World} {ops : Array Oper} {rest : List Oper} {a : Act} {Q : Exit → Act → World → Prop} {d : Tmp} {src dst e ty : TypeId} {x : Operand} {pos : String} {af : Array Edge}
    (s : ByteArray) (hx : a.eval x = .string s) (hs : P.underlying src = some .string) (hd : P.underlying dst = some (.slice e)) (he : P.underlying e = some (.int .u8))
    (h : ∀ g c w', Rd w' (some ⟨g, 0, none⟩) (s.data.toList.map bv) → Gr w w' → wpList P ops Q rest (a.put (some d) (.slice (some ⟨g, 0, none⟩) s.size c)) w') :
    wpList P ops Q (⟨some d, .convert src dst x, ty, pos, af, none⟩ :: rest) a w := by
  refine wpList_plain rfl fun K hK => ?_
  have hr := Lib.run_convert_string_bytes (P := P) w src dst e s hs hd he
  unfold Oper.wp
  simp only [execOp, hx, Sem.run_bind, hr, Result.andThen_ok, Sem.run_pure]
  exact hK _ _ (h _ _ _ (rd_bytes w e s) (gr_bytes w e s))
/-- string(b), at the operation. -/
theorem wp_conv_str {P : Program} {w : World} {ops : Array Oper} {rest : List Oper} {a : Act} {Q : Exit → Act → World → Prop} {d : Tmp} {src dst e ty : TypeId} {x : Operand} {pos : String} {af : Array Edge}
    {A : Option Addr} {n c : Nat} (bs : List UInt8) (hx : a.eval x = .slice A n c) (hb : Rd w A (bs.map bv)) (hn : n = bs.length) (hs : P.underlying src = some (.slice e)) (he : P.underlying e = some (.int .u8)) (hd : P.underlying dst = some .string)
    (h : wpList P ops Q rest (a.put (some d) (.string ⟨bs.toArray⟩)) w) :
    wpList P ops Q (⟨some d, .convert src dst x, ty, pos, af, none⟩ :: rest) a w := by
  refine wpList_plain rfl fun K hK => ?_
  have hr := run_str (P := P) hb src dst e n c hn hs he hd
  unfold Oper.wp
  simp only [execOp, hx, Sem.run_bind, hr, Result.andThen_ok, Sem.run_pure]
  exact hK _ _ h
end Go.Proofs.Ytopellbmmkflgaa
