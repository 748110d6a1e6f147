/- Texts on the way to 'CommitPlays', one behind the other (part 1). -/
import Derived.WalkKit
import Derived.WalkSpells
import Derived.WalkLawsBesides
import Derived.OwnWalk
import Derived.Below
import Derived.Lib.Hide
import Derived.Laws.CopyOwn
import Derived.Deep.Draws
import Derived.Laws.BytesArg
import Derived.Lib.ConvBytes
import Derived.Lib.Strings
import Derived.Lib.IndexBytes
import Derived.Laws.BitsAllLaws
import Derived.Laws.Bits64
import Derived.KernelRfl
import Derived.Lib.AppendStr
import Derived.Maps.AppendAt
import Derived.Test.YtcfbkhgdlgnmgaaChecked
set_option linter.unusedVariables false
set_option linter.unusedSimpArgs false
namespace Go.Proofs.Ytcfbkhgdlgnmgaa
open Go.RowKit
abbrev Gr (w w' : World) : Prop := Below w.heap.size w w'
theorem Gr.rfl' (w : World) : Gr w w := Below.refl _ _
theorem Gr.trans' {a b c : World} (h : Gr a b) (k : Gr b c) : Gr a c := h.trans (k.mono h.size)
theorem Gr.cell {w w' : World} (h : Gr w w') {a : Addr} {v : Value} (hc : w.cell? a = some v) : w'.cell? a = some v := (Below.cell h (World.block_lt_of_cell? w a hc)).trans hc
theorem Gr.draw (w : World) : Gr w w.drew := (Below.refl _ _).drew
theorem Gr.drawN (w : World) (n : Nat) : Gr w (w.drewN n) := ⟨rfl, rfl, rfl, Nat.le_refl _, fun _ _ => rfl⟩
theorem Gr.alloc1 (w : World) (o : Obj) : Gr w (w.alloc o) := (Below.refl _ _).alloc (Nat.le_refl _) o
def Row (w : World) (g : Nat) (t : TypeId) (xs : List Value) : Prop := w.heap[g]? = some (.cells xs.toArray t (0, 0))
section
variable {w w' : World} {g : Nat} {t : TypeId} {xs : List Value}
theorem Row.lt (h : Row w g t xs) : g < w.heap.size := (Array.getElem?_eq_some_iff.1 h).1
theorem Row.cell (h : Row w g t xs) (i : Nat) : w.cell? ⟨g, i, none⟩ = xs[i]? := by
  rw [cell_of_row w g i xs.toArray t (0, 0) h]; simp
theorem Row.frozen (h : Row w g t xs) (i : Nat) : w.frozen? ⟨g, i, none⟩ = false := by
  unfold Row at h
  simp [World.frozen?, h]
theorem Row.drew (h : Row w g t xs) : Row w.drew g t xs := h
theorem Row.drewN (h : Row w g t xs) (n : Nat) : Row (w.drewN n) g t xs := h
theorem Row.alloc (h : Row w g t xs) (o : Obj) : Row (w.alloc o) g t xs := (Below.heap_alloc w o g h.lt).trans h
theorem Row.new (w : World) (t : TypeId) (xs : List Value) : Row (w.alloc (.cells xs.toArray t)) w.heap.size t xs := heap_alloc_new w _
theorem Row.set (h : Row w g t xs) (i : Nat) (u : Value) : Row (w.setCell ⟨g, i, none⟩ u) g t (xs.set i u) := by
  unfold Row at h ⊢
  simp [World.setCell, Array.getElem?_modify, h]
theorem Row.below {B : Nat} (h : Row w g t xs) (hb : Below B w w') (hg : g < B) : Row w' g t xs := (hb.block g hg).trans h
theorem Row.gr (h : Row w g t xs) (hb : Gr w w') : Row w' g t xs := h.below hb h.lt
theorem Row.ne {g' : Nat} {t' : TypeId} {ys : List Value} (h : Row w g t xs) (h' : Row w g' t' ys) (hne : t ≠ t') : g ≠ g' := by
  rintro rfl
  unfold Row at h h'
  rw [h] at h'
  injection h' with h'
  injection h' with _ ht
  exact hne ht
end
theorem block_of_add (a : Addr) (n : Nat) : (a.add n).block = a.block := by unfold Addr.add; split <;> rfl
theorem add_of_add (a : Addr) (i j : Nat) : (a.add i).add j = a.add (i + j) := by
  unfold Addr.add
  by_cases hi : i = 0 <;> by_cases hj : j = 0 <;> simp [hi, hj, Nat.add_assoc]
theorem add_plain (g j : Nat) : (⟨g, 0, none⟩ : Addr).add j = ⟨g, j, none⟩ := by unfold Addr.add; split <;> simp_all
theorem add_plain' (g i j : Nat) : (⟨g, i, none⟩ : Addr).add j = ⟨g, i + j, none⟩ := by unfold Addr.add; split <;> simp_all
def Rd (w : World) (A : Option Addr) (xs : List Value) : Prop := ∀ j u, xs[j]? = some u → ∃ ad, A = some ad ∧ w.cell? (ad.add j) = some u
section
variable {w w' : World} {A : Option Addr} {xs : List Value}
theorem Rd.nil (w : World) (A : Option Addr) : Rd w A [] := fun j u h => by simp at h
theorem Rd.gr (h : Rd w A xs) (hb : Gr w w') : Rd w' A xs := fun j u hu => by
  obtain ⟨ad, e, hc⟩ := h j u hu
  exact ⟨ad, e, hb.cell hc⟩
theorem Rd.below {B : Nat} (h : Rd w A xs) (hb : Below B w w') (hB : ∀ ad, A = some ad → ad.block < B) : Rd w' A xs := fun j u hu => by
  obtain ⟨ad, e, hc⟩ := h j u hu
  exact ⟨ad, e, (Below.cell hb (by rw [block_of_add]; exact hB ad e)).trans hc⟩
theorem Rd.drew (h : Rd w A xs) : Rd w.drew A xs := h
theorem Rd.drewN (h : Rd w A xs) (n : Nat) : Rd (w.drewN n) A xs := h
theorem Rd.of_row {g : Nat} {t : TypeId} {ys : List Value} (h : Row w g t (xs ++ ys)) : Rd w (some ⟨g, 0, none⟩) xs := fun j u hu => by
  have hl := (List.getElem?_eq_some_iff.1 hu).1
  exact ⟨_, rfl, by rw [add_plain, h.cell, List.getElem?_append_left hl]; exact hu⟩
theorem Rd.of_row' {g : Nat} {t : TypeId} (h : Row w g t xs) : Rd w (some ⟨g, 0, none⟩) xs := Rd.of_row (ys := []) (by simpa using h)
theorem Rd.at_ (h : Rd w A xs) {k : Nat} (hk : k < xs.length) : ∃ ad, A = some ad ∧ w.cell? (ad.add k) = some xs[k] := h k _ (List.getElem?_eq_getElem hk)
theorem Rd.take (h : Rd w A xs) (k : Nat) : Rd w A (xs.take k) := fun j u hu => by
  rw [List.getElem?_take] at hu
  split at hu
  · exact h j u hu
  · cases hu
theorem Rd.drop (h : Rd w A xs) (k : Nat) : Rd w (A.map (·.add k)) (xs.drop k) := fun j u hu => by
  rw [List.getElem?_drop] at hu
  obtain ⟨ad, rfl, hc⟩ := h _ u hu
  exact ⟨_, rfl, by rw [add_of_add]; exact hc⟩
theorem Rd.cut (h : Rd w A xs) {k cap : Nat} (hk : k ≤ xs.length) (hc : xs.length ≤ cap) : Rd w (if cap = k then A else A.map (·.add k)) (xs.drop k) := by
  by_cases e : cap = k
  · have : xs.drop k = [] := List.drop_eq_nil_of_le (by omega)
    rw [this]
    exact Rd.nil _ _
  · rw [if_neg e]
    exact h.drop k
end
def bv (b : UInt8) : Value := .int .u8 (b.toNat : Int)
theorem bv_one (l : List UInt8) : ∀ u ∈ l.map bv, u.oneCell' = true := by
  intro u hu
  obtain ⟨b, _, rfl⟩ := List.mem_map.1 hu
  rfl
def le (v n : Nat) : List UInt8 := (List.range n).map fun i => UInt8.ofNat (v / 2 ^ (8 * i))
theorem le_length (v n : Nat) : (le v n).length = n := by simp [le]
theorem bv_ne_slice (b : UInt8) (A : Option Addr) (n c : Nat) : bv b ≠ .slice A n c := by unfold bv; intro h; cases h
theorem bv_ne_int (b : UInt8) (n : Int) : bv b ≠ .int .i64 n := by unfold bv; intro h; cases h
theorem Rd.ne_row {w : World} {A : Option Addr} {bs : List UInt8} {g : Nat} {t : TypeId} {cs : List Value} (h : Rd w A (bs.map bv)) (hr : Row w g t cs) (hcs : ∀ c ∈ cs, ∀ b, bv b ≠ c)
    {j : Nat} {u : Value} (hu : (bs.map bv)[j]? = some u) : ∃ ad, A = some ad ∧ w.cell? (ad.add j) = some u ∧ ad.block ≠ g := by
  obtain ⟨ad, rfl, hc⟩ := h j u hu
  refine ⟨ad, rfl, hc, fun e => ?_⟩
  have hb : (ad.add j).block = g := by rw [block_of_add]; exact e
  rw [List.getElem?_map] at hu
  obtain ⟨b, _, rfl⟩ := Option.map_eq_some_iff.1 hu
  unfold World.cell? at hc
  rw [hb] at hc
  unfold Row at hr
  rw [hr] at hc
  simp only [] at hc
  split at hc
  · cases hc
  · have hm : bv b ∈ cs := by
      have := List.mem_of_getElem? (by simpa using hc : cs[(ad.add j).off]? = some (bv b))
      exact this
    exact hcs _ hm b rfl
theorem Rd.keep {w w' : World} {A : Option Addr} {bs : List UInt8} {g : Nat} {t : TypeId} {cs : List Value} (h : Rd w A (bs.map bv)) (hr : Row w g t cs) (hcs : ∀ c ∈ cs, ∀ b, bv b ≠ c)
    (hg : w.grownBy w' (some g)) : Rd w' A (bs.map bv) := fun j u hu => by
  obtain ⟨ad, rfl, hc, hne⟩ := h.ne_row hr hcs hu
  refine ⟨ad, rfl, ?_⟩
  exact hg.cell hc (by rw [block_of_add]; intro e; injection e with e; exact hne e)
def RdN (w : World) (g : Nat) (A : Option Addr) (xs : List Value) : Prop := ∀ j u, xs[j]? = some u → ∃ ad, A = some ad ∧ w.cell? (ad.add j) = some u ∧ ad.block ≠ g
theorem RdN.rd {w : World} {g : Nat} {A : Option Addr} {xs : List Value} (h : RdN w g A xs) : Rd w A xs := fun j u hu => by
  obtain ⟨ad, e, hc, _⟩ := h j u hu
  exact ⟨ad, e, hc⟩
theorem RdN.only {w w' : World} {g : Nat} {A : Option Addr} {xs : List Value} (h : RdN w g A xs) (hg : w.grownBy w' (some g)) : RdN w' g A xs := fun j u hu => by
  obtain ⟨ad, e, hc, hne⟩ := h j u hu
  exact ⟨ad, e, hg.cell hc (by rw [block_of_add]; intro e; injection e with e; exact hne e), hne⟩
theorem RdN.gr {w w' : World} {g : Nat} {A : Option Addr} {xs : List Value} (h : RdN w g A xs) (hb : Gr w w') : RdN w' g A xs := fun j u hu => by
  obtain ⟨ad, e, hc, hne⟩ := h j u hu
  exact ⟨ad, e, hb.cell hc, hne⟩
theorem Rd.apart {w : World} {A : Option Addr} {bs : List UInt8} {g : Nat} {t : TypeId} {cs : List Value} (h : Rd w A (bs.map bv)) (hr : Row w g t cs) (hcs : ∀ c ∈ cs, ∀ b, bv b ≠ c) : RdN w g A (bs.map bv) :=
  fun j u hu => h.ne_row hr hcs hu
theorem run_str {P : Program} {w : World} {A : Option Addr} {bs : List UInt8} (h : Rd w A (bs.map bv)) (src dst e : TypeId) (n c : Nat) (hn : n = bs.length)
    (hs : P.underlying src = some (.slice e)) (he : P.underlying e = some (.int .u8)) (hd : P.underlying dst = some .string) :
    (convert src dst (.slice A n c)).run P w = .ok (.string ⟨bs.toArray⟩) w := by
  subst hn
  cases A with
  | none =>
    have : bs = [] := by
      cases hb : bs with
      | nil => rfl
      | cons x r =>
        rw [hb] at h
        obtain ⟨ad, e, _⟩ := h 0 (bv x) (by simp)
        cases e
    subst this
    exact run_convert_bytes_nil w src e hs he _ _ dst hd
  | some a =>
    have hl : (loadCells a bs.length).run P w = .ok ((bs.map fun b => (b.toNat : Int)).map (Value.int .u8)).toArray w := by
      have := run_loadCells_list (P := P) w a (bs.map bv) (fun j v hj => by
        obtain ⟨ad, e, hc⟩ := h j v hj
        injection e with e
        subst e
        exact hc)
      simp only [List.length_map] at this
      rw [this]
      congr 2
      simp [bv]
    rw [run_convert_bytes_string w src dst e _ _ c hs he hd, run_bytesToString w a _ c _ hl, foldl_push_bytes]
    have e1 : (bs.map fun b => (b.toNat : Int)).map (fun n => UInt8.ofNat n.toNat) = bs := by
      rw [List.map_map]
      have : ((fun n : Int => UInt8.ofNat n.toNat) ∘ fun b : UInt8 => (b.toNat : Int)) = id := by funext b; simp
      rw [this, List.map_id]
    rw [e1]
    simp [ByteArray.empty, ByteArray.emptyWithCapacity]
    rfl
theorem only_refl (w : World) (g : Option Nat) : w.grownBy w g := ⟨rfl, rfl, rfl, Nat.le_refl _, fun _ _ _ => rfl⟩
theorem only_trans {a b c : World} {g : Option Nat} (h : a.grownBy b g) (k : b.grownBy c g) : a.grownBy c g :=
  ⟨k.os.trans h.os, k.tape.trans h.tape, k.output.trans h.output, Nat.le_trans h.size k.size, fun i hi hne => (k.block i (Nat.lt_of_lt_of_le hi h.size) hne).trans (h.block i hi hne)⟩
theorem only_of_gr {a b : World} (h : Gr a b) (g : Option Nat) : a.grownBy b g := ⟨h.os, h.tape, h.output, h.size, fun i hi _ => h.block i hi⟩
theorem only_set (w : World) (g i : Nat) (u : Value) : w.grownBy (w.setCell ⟨g, i, none⟩ u) (some g) :=
  ⟨rfl, rfl, rfl, by simp [World.setCell], fun k _ hne => Below.heap_setCell w _ u k (fun e => hne (by rw [e]))⟩
theorem only_gr {a b : World} (h : a.grownBy b none) : Gr a b := ⟨h.os, h.tape, h.output, h.size, fun i hi => h.block i hi (by simp)⟩
theorem Row.only {w w' : World} {g h : Nat} {t : TypeId} {xs : List Value} (hr : Row w g t xs) (ho : w.grownBy w' (some h)) (hne : g ≠ h) : Row w' g t xs :=
  (ho.block g hr.lt (by intro e; injection e with e; exact hne e)).trans hr
theorem made_one (z : Value) (h : z.cells = #[z]) (n : Nat) : madeCells z.cells (n * 1) = (List.replicate n z).toArray := by
  rw [h]
  apply Array.ext
  · simp [madeCells]
  · intro i h1 h2
    simp [madeCells, Nat.mod_one]
theorem wpList_make_row {P : Program} (w : World) {ops : Array Oper} {rest : List Oper} {o : Oper} {a : Act} {Q : Exit → Act → World → Prop}
    (hg : o.guard = none) (l c : Operand) (t : TypeId) (hop : o.op = Op.makeSlice t l c)
    (e : TypeId) (i : TypeInfo) (z : Value) (h1 : P.underlying t = some (.slice e)) (h2 : P.info? e = some i) (h3 : i.zero = some z) (h4 : i.size = 1) (hz : z.cells = #[z])
    (kl kc : IntKind) (L C : Int) (n : Nat) (hl : a.eval l = .int kl L) (hc : a.eval c = .int kc C) (hL : L = (n : Int)) (hC : C = (n : Int)) (b2 : i.bytes * n ≤ 281474976710656) (b3 : n ≤ maxLen)
    (hK : ∀ w', Row w' w.heap.size e (List.replicate n z) → Gr w w' → w.heap.size < w'.heap.size → wpList P ops Q rest (a.put o.dst (.slice (some ⟨w.heap.size, 0, none⟩) n n)) w') :
    wpList P ops Q (o :: rest) a w := by
  refine wpList_plain hg fun K hK' => ?_
  have b2' : (i.bytes : Int) * (n : Int) ≤ 281474976710656 := by
    have h : ((i.bytes * n : Nat) : Int) ≤ 281474976710656 := by omega
    rwa [Int.natCast_mul] at h
  have hr := run_make (P := P) w t e i z h1 h2 h3 kl kc n n (by omega) (by omega) b2' (by unfold maxLen at b3; omega)
  simp only [Int.toNat_natCast, h4, made_one z hz] at hr
  subst hL
  subst hC
  unfold Oper.wp
  simp [execOp, hop, hl, hc, hr, Result.andThen]
  exact hK' _ _ (hK _ (Row.new w e _) ((Below.refl _ _).alloc (Nat.le_refl _) _) (by simp))
theorem wpList_copy_row {P : Program} {w : World} {ops : Array Oper} {rest : List Oper} {o : Oper} {a : Act} {Q : Exit → Act → World → Prop} (hgd : o.guard = none) (d s : Operand) (dT sT : TypeId)
    (ho : o.op = .call { callee := .builtin .copy, args := #[d, s], argTypes := #[dT, sT] }) (elem : TypeId) (hu : P.underlying dT = some (.slice elem)) (hsz : (P.info? elem).map (·.size) = some 1)
    (dp sp : Option Addr) (dLen dCap sLen sCap : Nat) (hd : a.eval d = .slice dp dLen dCap) (hs : a.eval s = .slice sp sLen sCap)
    (g off : Nat) (cur : List Value) (t : TypeId) (hg : Row w g t cur) (cs : List Value) (hn : cs.length = Nat.min sLen dLen)
    (hdp : 0 < cs.length → dp = some ⟨g, off, none⟩) (hsrc : Rd w sp cs)
    (hfit : off + cs.length ≤ cur.length) (h1 : ∀ v ∈ cs, v.oneCell' = true) (B : Nat) (w0 : World) (hb : Below B w0 w) (hBg : B ≤ g)
    (h : ∀ w', Row w' g t (splice cur off cs) → Below B w0 w' → wpList P ops Q rest (a.put o.dst (goInt cs.length)) w') :
    wpList P ops Q (o :: rest) a w :=
  wpList_copy_splice hgd d s dT sT ho elem hu hsz dp sp dLen dCap sLen sCap hd hs g off cur t hg cs hn
    (fun hp => ⟨hdp hp, by
      cases hcs : cs with
      | nil => rw [hcs] at hp; simp at hp
      | cons x r =>
        obtain ⟨ad, rfl, _⟩ := hsrc 0 x (by simp [hcs])
        refine ⟨ad, rfl, fun j v hj => ?_⟩
        obtain ⟨ad', e, hc⟩ := hsrc j v (by rw [hcs]; exact hj)
        injection e with e
        subst e
        exact hc⟩) hfit h1 B w0 hb hBg (fun w' hw hb' => h w' hw.out hb')
theorem gr_bytes (w : World) (e : TypeId) (s : ByteArray) : Gr w (Lib.bytesWorld w e s) :=
  ⟨by simp [Lib.bytesWorld, World.freeze, World.alloc, World.drew, -World.alloc_eq, -World.drew_eq], by simp [Lib.bytesWorld, World.freeze, World.alloc, World.drew, -World.alloc_eq, -World.drew_eq],
    by simp [Lib.bytesWorld, World.freeze, World.alloc, World.drew, -World.alloc_eq, -World.drew_eq], by rw [Lib.bytesWorld_size]; omega, fun k hk => Lib.bytesWorld_at_old w e s k hk⟩
theorem rd_bytes (w : World) (e : TypeId) (s : ByteArray) : Rd (Lib.bytesWorld w e s) (some ⟨w.heap.size, 0, none⟩) (s.data.toList.map bv) := fun j u hu => by
  rw [List.getElem?_map] at hu
  obtain ⟨b, hb, rfl⟩ := Option.map_eq_some_iff.1 hu
  have hj : j < s.size := by
    have := (List.getElem?_eq_some_iff.1 hb).1
    simpa using this
  refine ⟨_, rfl, ?_⟩
  rw [add_plain, Lib.bytesWorld_cell w e s j hj]
  simp only [List.getD, hb, Option.getD_some, bv]
theorem wp_conv_bytes {P : Program} {w : World} {ops : Array Oper} {rest : List Oper} {a : Act} {Q : Exit → Act → World → Prop} {d : Tmp} {src dst e ty : TypeId} {x : Operand} {pos : String} {af : Array Edge}
    (s : ByteArray) (hx : a.eval x = .string s) (hs : P.underlying src = some .string) (hd : P.underlying dst = some (.slice e)) (he : P.underlying e = some (.int .u8))
    (h : ∀ g c w', Rd w' (some ⟨g, 0, none⟩) (s.data.toList.map bv) → Gr w w' → wpList P ops Q rest (a.put (some d) (.slice (some ⟨g, 0, none⟩) s.size c)) w') :
    wpList P ops Q (⟨some d, .convert src dst x, ty, pos, af, none⟩ :: rest) a w := by
  refine wpList_plain rfl fun K hK => ?_
  have hr := Lib.run_convert_string_bytes (P := P) w src dst e s hs hd he
  unfold Oper.wp
  simp only [execOp, hx, Sem.run_bind, hr, Result.andThen_ok, Sem.run_pure]
  exact hK _ _ (h _ _ _ (rd_bytes w e s) (gr_bytes w e s))
end Go.Proofs.Ytcfbkhgdlgnmgaa
set_option linter.unusedVariables false
set_option linter.unusedSimpArgs false
namespace Go.Proofs.Ytcfbkhgdlgnmgaa
open Go.RowKit
def Own (w : World) (B : Nat) (e : TypeId) (k : Nat) (A : Option Addr) (n c : Nat) (xs : List Value) : Prop :=
  xs.length = n * k ∧ ((A = none ∧ n = 0 ∧ c = 0) ∨ ∃ g rest, A = some ⟨g, 0, none⟩ ∧ B ≤ g ∧ Row w g e (xs ++ rest) ∧ n ≤ c ∧ c ≤ maxLen ∧ (xs ++ rest).length = c * k)
def blkOf : Option Addr → Option Nat
  | some a => some a.block
  | none => none
section
variable {w w' : World} {B B' : Nat} {e : TypeId} {k : Nat} {A : Option Addr} {n c : Nat} {xs : List Value}
theorem Own.nil (w : World) (B : Nat) (e : TypeId) (k : Nat) : Own w B e k none 0 0 [] := ⟨by simp, .inl ⟨rfl, rfl, rfl⟩⟩
theorem Own.empty (w : World) (e : TypeId) (k : Nat) : Own (w.alloc (.cells #[] e)) w.heap.size e k (some ⟨w.heap.size, 0, none⟩) 0 0 [] :=
  ⟨by simp, .inr ⟨w.heap.size, [], rfl, Nat.le_refl _, by simpa using Row.new w e [], Nat.le_refl _, by unfold maxLen; omega, by simp⟩⟩
theorem Own.of_row {g : Nat} (h : Row w g e xs) (hB : B ≤ g) (hl : xs.length = n * k) (hm : n ≤ maxLen) : Own w B e k (some ⟨g, 0, none⟩) n n xs :=
  ⟨hl, .inr ⟨g, [], rfl, hB, by simpa using h, Nat.le_refl _, hm, by simpa using hl⟩⟩
theorem Own.len (h : Own w B e k A n c xs) : xs.length = n * k := h.1
theorem Own.le (h : Own w B e k A n c xs) : n ≤ c ∧ c ≤ maxLen := by
  rcases h.2 with ⟨_, rfl, rfl⟩ | ⟨g, rest, _, _, _, h1, h2, _⟩
  · exact ⟨Nat.le_refl _, by unfold maxLen; omega⟩
  · exact ⟨h1, h2⟩
theorem Own.rd (h : Own w B e k A n c xs) : Rd w A xs := by
  rcases h.2 with ⟨_, rfl, _⟩ | ⟨g, rest, rfl, _, hr, _⟩
  · have : xs = [] := List.eq_nil_of_length_eq_zero (by simpa using h.1)
    rw [this]; exact Rd.nil _ _
  · exact Rd.of_row hr
theorem Own.blk (h : Own w B e k A n c xs) : ∀ g, blkOf A = some g → B ≤ g ∧ g < w.heap.size := by
  intro g hg
  rcases h.2 with ⟨rfl, _⟩ | ⟨g', rest, rfl, hb, hr, _⟩
  · cases hg
  · injection hg with hg
    subst hg
    exact ⟨hb, hr.lt⟩
theorem Own.more (h : Own w B e k A n c xs) (hB : ∀ g, blkOf A = some g → B' ≤ g) : Own w B' e k A n c xs := by
  refine ⟨h.1, ?_⟩
  rcases h.2 with h0 | ⟨g, rest, rfl, hb, r⟩
  · exact .inl h0
  · exact .inr ⟨g, rest, rfl, hB g rfl, r⟩
theorem Own.keep (h : Own w B e k A n c xs) {row : Option Nat} (hg : w.grownBy w' row) (hne : ∀ g, blkOf A = some g → row ≠ some g) : Own w' B e k A n c xs := by
  refine ⟨h.1, ?_⟩
  rcases h.2 with h0 | ⟨g, rest, rfl, hb, hr, r⟩
  · exact .inl h0
  · refine .inr ⟨g, rest, rfl, hb, ?_, r⟩
    exact (hg.block g hr.lt (fun e => hne g rfl e.symm)).trans hr
theorem Own.gr (h : Own w B e k A n c xs) (hb : Gr w w') : Own w' B e k A n c xs := h.keep (only_of_gr hb none) (fun _ _ => by simp)
theorem Own.alloc (h : Own w B e k A n c xs) (o : Obj) : Own (w.alloc o) B e k A n c xs := h.gr ((Below.refl _ _).alloc (Nat.le_refl _) _)
theorem Own.drew (h : Own w B e k A n c xs) : Own w.drew B e k A n c xs := h.gr (Gr.draw _)
theorem Own.drewN (h : Own w B e k A n c xs) (m : Nat) : Own (w.drewN m) B e k A n c xs := h.gr (Gr.drawN _ _)
end
def RowKeep (w w' : World) (A : Option Addr) (xs : List Value) : Prop :=
  ∀ g e rest, A = some ⟨g, 0, none⟩ → Row w g e (xs ++ rest) → ∃ rest', Row w' g e (xs ++ rest') ∧ rest'.length = rest.length
theorem RowKeep.gr {w w' : World} {A : Option Addr} {xs : List Value} (h : Gr w w') : RowKeep w w' A xs := fun g e rest _ hr => ⟨rest, hr.gr h, rfl⟩
theorem Own.back {w w' : World} {B : Nat} {e : TypeId} {k : Nat} {A : Option Addr} {n c : Nat} {xs : List Value} (h : Own w B e k A n c xs) (hk : RowKeep w w' A xs) : Own w' B e k A n c xs := by
  refine ⟨h.1, ?_⟩
  rcases h.2 with h0 | ⟨g, rest, hA, hb, hr, hn, hc, hl⟩
  · exact .inl h0
  · obtain ⟨rest', hr', hl'⟩ := hk g e rest hA hr
    exact .inr ⟨g, rest', hA, hb, hr', hn, hc, by rw [List.length_append, hl', ← List.length_append]; exact hl⟩
def AppK (w w' : World) (A A' : Option Addr) (xs : List Value) : Prop :=
  Rd w' A xs ∧ ((A' = A ∧ w.grownBy w' (blkOf A)) ∨ (A' = some ⟨w.heap.size, 0, none⟩ ∧ Gr w w')) ∧ RowKeep w w' A xs
theorem AppK.grown {w w' : World} {A A' : Option Addr} {xs : List Value} (h : AppK w w' A A' xs) : w.grownBy w' (blkOf A) := by
  rcases h.2.1 with ⟨_, hg⟩ | ⟨_, hg⟩
  · exact hg
  · exact only_of_gr hg _
theorem AppK.below {w w' : World} {A A' : Option Addr} {xs : List Value} {B : Nat} (h : AppK w w' A A' xs) (hB : ∀ g, blkOf A = some g → B ≤ g) (hw : B ≤ w.heap.size) : Below B w w' := by
  have hg := h.grown
  exact ⟨hg.os, hg.tape, hg.output, hg.size, fun i hi => hg.block i (by omega) (fun e => by have := hB i e.symm; omega)⟩
theorem row_same {w : World} {g : Nat} {t t' : TypeId} {xs ys : List Value} (h : Row w g t xs) (h' : Row w g t' ys) : t = t' ∧ xs = ys := by
  unfold Row at h h'
  rw [h] at h'
  injection h' with h'
  injection h' with h1 h2
  exact ⟨h2, by simpa using h1⟩
theorem row_setRow {w : World} {g : Nat} {t : TypeId} {xs : List Value} (h : Row w g t xs) (ys : List Value) : Row (w.setRow g ys.toArray) g t ys := setRow_heap w g _ _ t _ h
theorem grown_setRow (w : World) (g : Nat) (ys : Array Value) : w.grownBy (w.setRow g ys) (some g) :=
  ⟨rfl, rfl, rfl, by simp [World.setRow], fun k _ hk => setRow_other w g k _ (fun e => hk (by rw [e]))⟩
theorem gr_grow (w : World) (o : Obj) : Gr w (w.drew.alloc o) := (Gr.draw w).trans ((Below.refl w.heap.size w.drew).alloc (Nat.le_refl _) o)
section
variable {P : Program} (w : World)
theorem own_grown {z : Value} (B : Nat) (e : TypeId) (k : Nat) (hzs : z.cells.size = k) (n m old : Nat) (xs news : List Value) (hx : xs.length = n * k) (hl : news.length = m * k) (ho : old < n + m) (h63 : n + m ≤ maxLen) (hB : B ≤ w.heap.size) :
    Own (w.drew.alloc (.cells (xs.toArray ++ news.toArray ++ Builtin.zeroCells z.cells (grownCap w (n + m) old e - (n + m))) e)) B e k (some ⟨w.heap.size, 0, none⟩) (n + m) (grownCap w (n + m) old e) (xs ++ news) := by
  have hge := grownCap_ge w (n + m) old e
  have hcm : grownCap w (n + m) old e ≤ maxLen := grownCap_le_maxLen w (n + m) old e h63
  have hsz : (Builtin.zeroCells z.cells (grownCap w (n + m) old e - (n + m))).size = (grownCap w (n + m) old e - (n + m)) * k := by rw [size_zeroCells, hzs]
  refine ⟨by rw [List.length_append, hx, hl, Nat.add_mul], .inr ⟨w.heap.size, (Builtin.zeroCells z.cells (grownCap w (n + m) old e - (n + m))).toList, rfl, hB, ?_, hge, hcm, ?_⟩⟩
  · have := Row.new w.drew e ((xs ++ news) ++ (Builtin.zeroCells z.cells (grownCap w (n + m) old e - (n + m))).toList)
    have e1 : ((xs ++ news) ++ (Builtin.zeroCells z.cells (grownCap w (n + m) old e - (n + m))).toList).toArray = xs.toArray ++ news.toArray ++ Builtin.zeroCells z.cells (grownCap w (n + m) old e - (n + m)) := by
      apply Array.ext'
      simp
    rw [e1] at this
    exact this
  · have e2 : (Builtin.zeroCells z.cells (grownCap w (n + m) old e - (n + m))).toList.length = (grownCap w (n + m) old e - (n + m)) * k := by simpa using hsz
    rw [List.length_append, List.length_append, e2, hx, hl, ← Nat.add_mul, ← Nat.add_mul]
    congr 1
    omega
theorem run_append_none (t ty e : TypeId) (i : TypeInfo) (ht : P.underlying t = some (.slice e)) (hi : P.info? e = some i) (A : Option Addr) (n c d : Nat) (hnc : n ≤ c) :
    (Builtin.append_ #[t, t] ty #[.slice A n c, .slice none 0 d]).run P w = .ok (.slice A n c) w := by
  cases A with
  | none => simp [Builtin.append_, run_underlying ht, sizeOf, typeInfo, hi, Builtin.lenOf, Builtin.firstCells, hnc]
  | some a => simp [Builtin.append_, run_underlying ht, sizeOf, typeInfo, hi, Builtin.lenOf, Builtin.firstCells, hnc, storeCells]
theorem run_append (B : Nat) (t ty e : TypeId) (i : TypeInfo) (z : Value) (k bytes : Nat) (ht : P.underlying t = some (.slice e)) (hi : P.info? e = some i) (hz : i.zero = some z)
    (hsize : i.size = k) (hby : i.bytes = bytes) (hzs : z.cells.size = k) (hk : 0 < k)
    (A : Option Addr) (n c : Nat) (xs : List Value) (hown : Own w B e k A n c xs)
    (S : Option Addr) (m d : Nat) (news : List Value) (hl : news.length = m * k) (hnews : Rd w S news) (h1 : ∀ u ∈ news, u.oneCell' = true)
    (hbytes : (n + m) * bytes ≤ 140737488355328) (h63 : n + m ≤ maxLen) (hB : B ≤ w.heap.size) :
    ∃ A' c' w', (Builtin.append_ #[t, t] ty #[.slice A n c, .slice S m d]).run P w = .ok (.slice A' (n + m) c') w' ∧ Own w' B e k A' (n + m) c' (xs ++ news) ∧ AppK w w' A A' xs := by
  subst hsize
  subst hby
  have hx := hown.1
  have hle := hown.le
  have hrd := hown.rd
  cases S with
  | none =>
    have hn : news = [] := by
      cases hb : news with
      | nil => rfl
      | cons x r =>
        rw [hb] at hnews
        obtain ⟨ad, e, _⟩ := hnews 0 x (by simp)
        cases e
    have hm : m = 0 := by
      subst hn
      rcases Nat.eq_zero_or_pos m with h | h
      · exact h
      · have : 0 < m * i.size := Nat.mul_pos h hk
        simp at hl
        omega
    subst hn
    subst hm
    exact ⟨A, c, w, run_append_none w t ty e i ht hi A n c d hle.1, by simpa using hown, hrd, .inl ⟨rfl, only_refl _ _⟩, RowKeep.gr (Gr.rfl' _)⟩
  | some a =>
    have hnews' : ∀ j u, news[j]? = some u → w.cell? (a.add j) = some u := fun j u hu => by
      obtain ⟨ad, e, hc⟩ := hnews j u hu
      injection e with e
      subst e
      exact hc
    have h63' : ((n + m : Nat) : Int) ≤ 9223372036854775807 := by unfold maxLen at h63; omega
    rcases hown.2 with ⟨rfl, rfl, rfl⟩ | ⟨g, rest, rfl, hbg, hrow, hnc, hcm, hcs⟩
    · have hxe : xs = [] := List.eq_nil_of_length_eq_zero (by simpa using hx)
      subst hxe
      by_cases hm : m = 0
      · subst hm
        have hn : news = [] := List.eq_nil_of_length_eq_zero (by simpa using hl)
        subst hn
        refine ⟨none, 0, w, ?_, by simpa using hown, hrd, .inl ⟨rfl, only_refl _ _⟩, RowKeep.gr (Gr.rfl' _)⟩
        simp [Builtin.append_, run_underlying ht, sizeOf, typeInfo, hi, Builtin.lenOf, Builtin.firstCells, loadCells, loadCellsFrom]
      · have hr := run_append_nil (P := P) w t ty e i z ht hi hz a m d news hl hnews' (by omega) (by omega) (by have hb := hbytes; simp only [Nat.zero_add] at hb; omega)
        have hgr := own_grown w (z := z) B e i.size hzs 0 m 0 [] news (by simp) hl (by omega) h63 hB
        simp only [Nat.zero_add, List.nil_append, Array.empty_append] at hgr ⊢
        exact ⟨_, _, _, hr, hgr, Rd.nil _ _, .inr ⟨rfl, gr_grow _ _⟩, RowKeep.gr (gr_grow _ _)⟩
    · by_cases hroom : n + m ≤ c
      · have hlen : (xs ++ rest).length = c * i.size := hcs
        have hfit : n * i.size + news.length ≤ (xs ++ rest).toArray.size := by
          rw [hl, List.size_toArray, hcs, ← Nat.add_mul]
          exact Nat.mul_le_mul_right _ hroom
        have hr := run_append_room (P := P) w t ty e i ht hi g n c _ hrow a m d news hl hnews' h1 hroom hfit
        have et : (xs ++ rest).take (n * i.size) = xs := by rw [← hx]; exact List.take_left
        simp only [et] at hr
        have hrow' := row_setRow hrow (xs ++ news ++ (xs ++ rest).drop (n * i.size + news.length))
        refine ⟨_, _, _, hr, ⟨by rw [List.length_append, hx, hl, Nat.add_mul], .inr ⟨g, (xs ++ rest).drop (n * i.size + news.length), rfl, hbg, hrow', hroom, hcm, ?_⟩⟩, ?_, .inl ⟨rfl, grown_setRow _ _ _⟩, fun g' e' rest' hA hr' => ?_⟩
        · rw [List.size_toArray] at hfit
          simp only [List.length_append, List.length_drop] at hcs hfit ⊢
          rw [hx] at hcs hfit ⊢
          omega
        · refine Rd.of_row (t := e) (ys := news ++ (xs ++ rest).drop (n * i.size + news.length)) ?_
          rw [← List.append_assoc]
          exact hrow'
        · injection hA with hA
          injection hA with hA
          subst hA
          obtain ⟨rfl, hre⟩ := row_same hrow hr'
          refine ⟨news ++ (xs ++ rest).drop (n * i.size + news.length), by rw [← List.append_assoc]; exact hrow', ?_⟩
          have h2 := congrArg List.length hre
          rw [List.size_toArray] at hfit
          simp only [List.length_append, List.length_drop] at hcs hfit h2 ⊢
          rw [hx] at hcs hfit h2 ⊢
          omega
      · have holds : ∀ j u, xs[j]? = some u → w.cell? ((⟨g, 0, none⟩ : Addr).add j) = some u := fun j u hu => by
          obtain ⟨ad, e, hc⟩ := hrd j u hu
          injection e with e
          subst e
          exact hc
        have hr := run_append_grow (P := P) w t ty e i z ht hi hz ⟨g, 0, none⟩ n c xs hx holds a m d news hl hnews' (by omega) h63' (growslice_fits (by omega) hbytes)
        have hgr := own_grown w (z := z) B e i.size hzs n m c xs news hx hl (by omega) h63 hB
        exact ⟨_, _, _, hr, hgr, hrd.gr (gr_grow _ _), .inr ⟨rfl, gr_grow _ _⟩, RowKeep.gr (gr_grow _ _)⟩
theorem run_append_string (B : Nat) (t u ty e : TypeId) (i : TypeInfo) (ht : P.underlying t = some (.slice e)) (hu : P.underlying u = some .string) (hi : P.info? e = some i) (hz : i.zero = some (.int .u8 0))
    (hsize : i.size = 1) (hby : i.bytes = 1)
    (A : Option Addr) (n c : Nat) (xs : List Value) (hown : Own w B e 1 A n c xs) (s : ByteArray)
    (hbytes : n + s.size ≤ 140737488355328) (hB : B ≤ w.heap.size) :
    ∃ A' c' w', (Builtin.append_ #[t, u] ty #[.slice A n c, .string s]).run P w = .ok (.slice A' (n + s.size) c') w' ∧ Own w' B e 1 A' (n + s.size) c' (xs ++ s.data.toList.map bv) ∧ AppK w w' A A' xs := by
  have hx : xs.length = n := by simpa using hown.1
  have hle := hown.le
  have hrd := hown.rd
  have hsl : (s.data.toList.map bv).length = s.size * 1 := by simp
  have hsc : Lib.strCells s = s.data.toList.map bv := rfl
  have hzs : (Value.int .u8 0).cells.size = 1 := rfl
  have h63 : n + s.size ≤ maxLen := by unfold maxLen; omega
  rcases hown.2 with ⟨rfl, rfl, rfl⟩ | ⟨g, rest, rfl, hbg, hrow, hnc, hcm, hcs⟩
  · have hxe : xs = [] := List.eq_nil_of_length_eq_zero hx
    subst hxe
    by_cases hm : s.size = 0
    · have hn : s.data.toList.map bv = [] := List.eq_nil_of_length_eq_zero (by rw [hsl, hm])
      refine ⟨none, 0, w, ?_, by rw [hn, hm]; simpa using hown, hrd, .inl ⟨rfl, only_refl _ _⟩, RowKeep.gr (Gr.rfl' _)⟩
      have hf := Lib.run_firstCells_string (P := P) w 1 s
      rw [hm] at hf
      simp [Builtin.append_, run_underlying ht, run_underlying hu, sizeOf, typeInfo, hi, hsize, Builtin.lenOf, hm, hf]
    · have hr := run_append_nil_string (P := P) w t u ty e i (.int .u8 0) ht hu hi hz s (by omega) (by omega) (by rw [hby]; omega)
      have e1 : (s.data.map fun b => Value.int .u8 b.toNat) = (s.data.toList.map bv).toArray := by
        apply Array.ext'
        simp [bv]
      rw [e1] at hr
      have hgr := own_grown w (z := .int .u8 0) B e 1 hzs 0 s.size 0 [] (s.data.toList.map bv) (by simp) hsl (by omega) h63 hB
      simp only [Nat.zero_add, List.nil_append, Array.empty_append] at hgr ⊢
      exact ⟨_, _, _, hr, hgr, Rd.nil _ _, .inr ⟨rfl, gr_grow _ _⟩, RowKeep.gr (gr_grow _ _)⟩
  · by_cases hroom : n + s.size ≤ c
    · have hcs' : (xs ++ rest).length = c := by simpa using hcs
      have hr := Lib.run_append_room_string (P := P) w t u ty e i ht hu hi hsize g n c _ hrow s hroom (by rw [List.size_toArray, hcs']; exact hroom)
      have et : (xs ++ rest).take n = xs := by rw [← hx]; exact List.take_left
      simp only [et, hsc] at hr
      have hrow' := row_setRow hrow (xs ++ s.data.toList.map bv ++ (xs ++ rest).drop (n + s.size))
      refine ⟨_, _, _, hr, ⟨by rw [List.length_append, hx, hsl]; omega, .inr ⟨g, (xs ++ rest).drop (n + s.size), rfl, hbg, hrow', hroom, hcm, ?_⟩⟩, ?_, .inl ⟨rfl, grown_setRow _ _ _⟩, fun g' e' rest' hA hr' => ?_⟩
      · rw [List.length_append, List.length_append, hsl, List.length_drop, hcs', hx]
        omega
      · refine Rd.of_row (t := e) (ys := s.data.toList.map bv ++ (xs ++ rest).drop (n + s.size)) ?_
        rw [← List.append_assoc]
        exact hrow'
      · injection hA with hA
        injection hA with hA
        subst hA
        obtain ⟨rfl, hre⟩ := row_same hrow hr'
        refine ⟨s.data.toList.map bv ++ (xs ++ rest).drop (n + s.size), by rw [← List.append_assoc]; exact hrow', ?_⟩
        have h2 := congrArg List.length hre
        rw [List.length_append, hsl, List.length_drop, hcs']
        simp only [List.length_append] at h2 hcs'
        omega
    · have holds : ∀ j u, xs[j]? = some u → w.cell? ((⟨g, 0, none⟩ : Addr).add j) = some u := fun j u hu => by
        obtain ⟨ad, e, hc⟩ := hrd j u hu
        injection e with e
        subst e
        exact hc
      have hr := Lib.run_append_grow_string (P := P) w t u ty e i (.int .u8 0) ht hu hi hz ⟨g, 0, none⟩ n c xs (by rw [hsize]; simpa using hx) holds s (by omega) (by omega) (by rw [hby]; exact growslice_fits (by omega) (by omega))
      rw [hsc] at hr
      have hgr := own_grown w (z := .int .u8 0) B e 1 hzs n s.size c xs (s.data.toList.map bv) (by simpa using hx) hsl (by omega) h63 hB
      exact ⟨_, _, _, hr, hgr, hrd.gr (gr_grow _ _), .inr ⟨rfl, gr_grow _ _⟩, RowKeep.gr (gr_grow _ _)⟩
theorem wpList_append {ops : Array Oper} {rest : List Oper} {o : Oper} {a : Act} {Q : Exit → Act → World → Prop} (hgd : o.guard = none) (s x : Operand) (t : TypeId)
    (ho : o.op = .call { callee := .builtin .append, args := #[s, x], argTypes := #[t, t] })
    (B : Nat) (e : TypeId) (i : TypeInfo) (z : Value) (k bytes : Nat) (ht : P.underlying t = some (.slice e)) (hi : P.info? e = some i) (hz : i.zero = some z)
    (hsize : i.size = k) (hby : i.bytes = bytes) (hzs : z.cells.size = k) (hk : 0 < k)
    (A : Option Addr) (n c : Nat) (xs : List Value) (hs : a.eval s = .slice A n c) (hown : Own w B e k A n c xs)
    (S : Option Addr) (m d : Nat) (news : List Value) (hx : a.eval x = .slice S m d) (hl : news.length = m * k) (hnews : Rd w S news) (h1 : ∀ u ∈ news, u.oneCell' = true)
    (hbytes : (n + m) * bytes ≤ 140737488355328) (h63 : n + m ≤ maxLen) (hB : B ≤ w.heap.size)
    (h : ∀ A' c' w', Own w' B e k A' (n + m) c' (xs ++ news) → AppK w w' A A' xs → wpList P ops Q rest (a.put o.dst (.slice A' (n + m) c')) w') : wpList P ops Q (o :: rest) a w := by
  refine wpList_plain hgd fun K hK => ?_
  obtain ⟨A', c', w', hr, h2, h3⟩ := run_append (P := P) w B t o.type e i z k bytes ht hi hz hsize hby hzs hk A n c xs hown S m d news hl hnews h1 hbytes h63 hB
  unfold Oper.wp execOp
  simp only [ho, resolve, invoke, builtin, Sem.run_bind, Sem.run_pure, Result.andThen_ok, List.map_toArray, List.map_cons, List.map_nil, hs, hx, hr]
  exact hK _ _ (h A' c' w' h2 h3)
theorem wpList_append_string {ops : Array Oper} {rest : List Oper} {o : Oper} {a : Act} {Q : Exit → Act → World → Prop} (hgd : o.guard = none) (sl x : Operand) (t u : TypeId)
    (ho : o.op = .call { callee := .builtin .append, args := #[sl, x], argTypes := #[t, u] })
    (B : Nat) (e : TypeId) (i : TypeInfo) (ht : P.underlying t = some (.slice e)) (hu : P.underlying u = some .string) (hi : P.info? e = some i) (hz : i.zero = some (.int .u8 0)) (hsize : i.size = 1) (hby : i.bytes = 1)
    (A : Option Addr) (n c : Nat) (xs : List Value) (hs : a.eval sl = .slice A n c) (hown : Own w B e 1 A n c xs) (s : ByteArray) (hx : a.eval x = .string s)
    (hbytes : n + s.size ≤ 140737488355328) (hB : B ≤ w.heap.size)
    (h : ∀ A' c' w', Own w' B e 1 A' (n + s.size) c' (xs ++ s.data.toList.map bv) → AppK w w' A A' xs → wpList P ops Q rest (a.put o.dst (.slice A' (n + s.size) c')) w') : wpList P ops Q (o :: rest) a w := by
  refine wpList_plain hgd fun K hK => ?_
  obtain ⟨A', c', w', hr, h2, h3⟩ := run_append_string (P := P) w B t u o.type e i ht hu hi hz hsize hby A n c xs hown s hbytes hB
  unfold Oper.wp execOp
  simp only [ho, resolve, invoke, builtin, Sem.run_bind, Sem.run_pure, Result.andThen_ok, List.map_toArray, List.map_cons, List.map_nil, hs, hx, hr]
  exact hK _ _ (h A' c' w' h2 h3)
end
structure AppTo (w : World) (B : Nat) (e : TypeId) (k : Nat) (A : Option Addr) (xs : List Value) (w' : World) (A' : Option Addr) (n' c' : Nat) (xs' : List Value) : Prop where
  own : Own w' B e k A' n' c' xs'
  grown : w.grownBy w' (blkOf A)
  rd : Rd w' A xs
  at_ : (A' = A ∧ xs <+: xs') ∨ ∀ g, blkOf A' = some g → w.heap.size ≤ g
  base : B ≤ w.heap.size
  lt : ∀ g, blkOf A = some g → g < w.heap.size
  keep : RowKeep w w' A xs
section
variable {w w' w'' : World} {B : Nat} {e : TypeId} {k : Nat} {A A' A'' : Option Addr} {n c n' c' n'' c'' : Nat} {xs xs' xs'' news : List Value}
theorem AppTo.refl (h : Own w B e k A n c xs) (hB : B ≤ w.heap.size) : AppTo w B e k A xs w A n c xs := ⟨h, only_refl _ _, h.rd, .inl ⟨rfl, List.prefix_refl _⟩, hB, fun g hg => (h.blk g hg).2, RowKeep.gr (Gr.rfl' _)⟩
theorem AppTo.gr (h : AppTo w B e k A xs w' A' n' c' xs') (hg : Gr w' w'') : AppTo w B e k A xs w'' A' n' c' xs' :=
  ⟨h.own.gr hg, only_trans h.grown (only_of_gr hg _), h.rd.gr hg, h.at_, h.base, h.lt, fun g e rest hA hr => by
    obtain ⟨r, h1, h2⟩ := h.keep g e rest hA hr
    exact ⟨r, h1.gr hg, h2⟩⟩
theorem AppTo.size (h : AppTo w B e k A xs w' A' n' c' xs') : w.heap.size ≤ w'.heap.size := h.grown.size
theorem AppTo.step (h : AppTo w B e k A xs w' A' n' c' xs') (ho : Own w'' B e k A'' n'' c'' (xs' ++ news)) (hk : AppK w' w'' A' A'' xs') : AppTo w B e k A xs w'' A'' n'' c'' (xs' ++ news) := by
  have hs := h.grown.size
  refine ⟨ho, ?_, ?_, ?_, h.base, h.lt, ?_⟩
  · have hg := hk.grown
    refine ⟨hg.os.trans h.grown.os, hg.tape.trans h.grown.tape, hg.output.trans h.grown.output, Nat.le_trans hs hg.size, fun i hi hne => ?_⟩
    rw [hg.block i (Nat.lt_of_lt_of_le hi hs) ?_, h.grown.block i hi hne]
    rcases h.at_ with ⟨rfl, _⟩ | hn
    · exact hne
    · intro e
      have := hn i e.symm
      omega
  · rcases h.at_ with ⟨rfl, hp⟩ | hn
    · obtain ⟨r, rfl⟩ := hp
      intro j u hu
      have hl := (List.getElem?_eq_some_iff.1 hu).1
      exact hk.1 j u (by rw [List.getElem?_append_left hl]; exact hu)
    · intro j u hu
      obtain ⟨ad, rfl, hc⟩ := h.rd j u hu
      refine ⟨ad, rfl, ?_⟩
      rcases hk.2.1 with ⟨e1, hg⟩ | ⟨e1, hg⟩
      · refine hg.cell hc ?_
        intro e2
        have h3 := hn _ e2.symm
        rw [block_of_add] at h3
        have h4 := h.lt _ rfl
        omega
      · exact hg.cell hc
  · rcases hk.2.1 with ⟨e1, hg⟩ | ⟨e1, hg⟩
    · subst e1
      rcases h.at_ with ⟨e2, hp⟩ | hn
      · exact .inl ⟨e2, hp.trans (List.prefix_append _ _)⟩
      · exact .inr hn
    · refine .inr fun g hgb => ?_
      subst e1
      injection hgb with hgb
      subst hgb
      exact hs
  · intro g e2 rest hA hr
    obtain ⟨r, h1, h2⟩ := h.keep g e2 rest hA hr
    rcases h.at_ with ⟨rfl, hp⟩ | hn
    · obtain ⟨t, rfl⟩ := hp
      rcases h.own.2 with ⟨e3, _⟩ | ⟨g', r', e3, _, hr', _⟩
      · rw [e3] at hA; cases hA
      · rw [e3] at hA
        injection hA with hA
        injection hA with hA
        subst hA
        obtain ⟨rfl, hre⟩ := row_same hr' h1
        obtain ⟨r2, h3, h4⟩ := hk.2.2 _ _ r' e3 hr'
        refine ⟨t ++ r2, by rw [← List.append_assoc]; exact h3, ?_⟩
        have := congrArg List.length hre
        simp only [List.length_append] at this ⊢
        omega
    · refine ⟨r, ?_, h2⟩
      have hlt := h.lt g (by rw [hA]; rfl)
      exact (hk.grown.block g h1.lt (fun e4 => by have := hn g e4.symm; omega)).trans h1
end
theorem Rd.one_new (w : World) (x : Value) (t : TypeId) : Rd (w.alloc (.cells #[x] t)) (some ⟨w.heap.size, 0, none⟩) [x] := Rd.of_row' (t := t) (Row.new w t [x])
theorem Rd.new (w : World) (xs : List Value) (t : TypeId) : Rd (w.alloc (.cells xs.toArray t)) (some ⟨w.heap.size, 0, none⟩) xs := Rd.of_row' (t := t) (Row.new w t xs)
end Go.Proofs.Ytcfbkhgdlgnmgaa
set_option linter.unusedVariables false
set_option linter.unusedSimpArgs false
namespace Go.Proofs.Ytcfbkhgdlgnmgaa
abbrev Str := List UInt8
abbrev Files := List (Str × Str)
section
variable {α β : Type}
def insBy (key : α → Str) (x : α) : List α → List α
  | [] => [x]
  | y :: r => if bytesBefore (key x) (key y) then x :: y :: r else y :: insBy key x r
def Rising (key : α → Str) (l : List α) : Prop := l.Pairwise fun x y => bytesBefore (key x) (key y) = true
theorem insBy_map (g : β → α) (key : α → Str) (x : β) : ∀ l : List β, (insBy (fun b => key (g b)) x l).map g = insBy key (g x) (l.map g)
  | [] => rfl
  | y :: r => by
    unfold insBy
    simp only [List.map_cons]
    split <;> simp [insBy_map g key x r]
theorem mem_insBy {key : α → Str} {x y : α} : ∀ {l : List α}, y ∈ insBy key x l ↔ y = x ∨ y ∈ l
  | [] => by simp [insBy]
  | z :: r => by
    unfold insBy
    split
    · simp
    · simp [mem_insBy (l := r)]
      constructor
      · rintro (h | h | h) <;> simp [h]
      · rintro (h | h | h) <;> simp [h]
theorem length_insBy (key : α → Str) (x : α) : ∀ l : List α, (insBy key x l).length = l.length + 1
  | [] => rfl
  | y :: r => by
    unfold insBy
    split
    · rfl
    · simp [length_insBy key x r]
theorem bb_irrefl (a : Str) : bytesBefore a a = false := WideAt.bytes_irrefl a
theorem bb_trans {a b c : Str} : bytesBefore a b = true → bytesBefore b c = true → bytesBefore a c = true := WideShapes.bytes_trans a b c
theorem bb_total {a b : Str} (h : a ≠ b) : bytesBefore a b = true ∨ bytesBefore b a = true := WideAt.bytes_total a b h
theorem rising_insBy {key : α → Str} {x : α} : ∀ {l : List α}, Rising key l → (∀ y ∈ l, key y ≠ key x) → Rising key (insBy key x l)
  | [], _, _ => by simp [Rising, insBy]
  | y :: r, h, hn => by
    obtain ⟨h1, h2⟩ := List.pairwise_cons.1 h
    unfold insBy
    split
    · rename_i hb
      refine List.pairwise_cons.2 ⟨fun z hz => ?_, h⟩
      rcases List.mem_cons.1 hz with rfl | hz
      · exact hb
      · exact bb_trans hb (h1 z hz)
    · rename_i hb
      refine List.pairwise_cons.2 ⟨fun z hz => ?_, rising_insBy h2 (fun z hz => hn z (by simp [hz]))⟩
      rcases mem_insBy.1 hz with rfl | hz
      · rcases bb_total (hn y (by simp)) with h | h
        · exact h
        · exact absurd h hb
      · exact h1 z hz
theorem Rising.filter {key : α → Str} {l : List α} (h : Rising key l) (q : α → Bool) : Rising key (l.filter q) := List.Pairwise.filter _ h
end
def Files.put (l : Files) (n b : Str) : Files := insBy (·.1) (n, b) (l.filter fun p => !(p.1 == n))
def Files.del (l : Files) (n : Str) : Files := l.filter fun p => !(p.1 == n)
def Files.get (l : Files) (n : Str) : Option Str := (l.find? fun p => p.1 == n).map (·.2)
def Files.used (l : Files) : Nat := (l.map fun p => p.2.length).sum
abbrev Files.Rising (l : Files) : Prop := Go.Proofs.Ytcfbkhgdlgnmgaa.Rising (·.1) l
theorem put_rising {l : Files} (h : l.Rising) (n b : Str) : (l.put n b).Rising := rising_insBy (h.filter _) (fun y hy => by
  have := (List.mem_filter.1 hy).2
  simpa using this)
theorem del_rising {l : Files} (h : l.Rising) (n : Str) : (l.del n).Rising := h.filter _
theorem put_length (l : Files) (n b : Str) : (l.put n b).length ≤ l.length + 1 := by
  unfold Files.put
  rw [length_insBy]
  have := List.length_filter_le (fun p : Str × Str => !(p.1 == n)) l
  omega
theorem del_length (l : Files) (n : Str) : (l.del n).length ≤ l.length := List.length_filter_le _ _
theorem mem_put {l : Files} {n b : Str} {p : Str × Str} : p ∈ l.put n b ↔ p = (n, b) ∨ (p ∈ l ∧ p.1 ≠ n) := by
  unfold Files.put
  rw [mem_insBy, List.mem_filter]
  simp
theorem mem_del {l : Files} {n : Str} {p : Str × Str} : p ∈ l.del n ↔ p ∈ l ∧ p.1 ≠ n := by
  unfold Files.del
  rw [List.mem_filter]
  simp
theorem get_some {l : Files} {n b : Str} (h : l.get n = some b) : (n, b) ∈ l := by
  unfold Files.get at h
  obtain ⟨p, hp, rfl⟩ := Option.map_eq_some_iff.1 h
  have h1 := List.find?_some hp
  have h2 := List.mem_of_find?_eq_some hp
  have : p.1 = n := by simpa using h1
  rw [← this]
  exact h2
theorem rising_inj {l : Files} (h : l.Rising) {p q : Str × Str} (hp : p ∈ l) (hq : q ∈ l) (he : p.1 = q.1) : p = q := by
  induction l with
  | nil => simp at hp
  | cons x r ih =>
    obtain ⟨h1, h2⟩ := List.pairwise_cons.1 h
    rcases List.mem_cons.1 hp with rfl | hp' <;> rcases List.mem_cons.1 hq with rfl | hq'
    · rfl
    · have : bytesBefore p.1 q.1 = true := h1 q hq'
      rw [he, bb_irrefl] at this; cases this
    · have : bytesBefore q.1 p.1 = true := h1 p hp'
      rw [he, bb_irrefl] at this; cases this
    · exact ih h2 hp' hq'
theorem get_of_mem {l : Files} (h : l.Rising) {n b : Str} (hm : (n, b) ∈ l) : l.get n = some b := by
  unfold Files.get
  cases hf : l.find? (fun p => p.1 == n) with
  | none =>
    have := List.find?_eq_none.1 hf _ hm
    simp at this
  | some p =>
    have h1 : p.1 = n := by simpa using List.find?_some hf
    have h2 := List.mem_of_find?_eq_some hf
    have := rising_inj h h2 hm h1
    rw [this]
    rfl
theorem get_none {l : Files} {n : Str} : l.get n = none ↔ ∀ p ∈ l, p.1 ≠ n := by
  unfold Files.get
  rw [Option.map_eq_none_iff, List.find?_eq_none]
  simp
theorem used_insBy (x : Str × Str) : ∀ l : Files, Files.used (insBy (·.1) x l) = x.2.length + Files.used l
  | [] => by simp [insBy, Files.used]
  | y :: r => by
    unfold insBy
    split
    · simp [Files.used]
    · have := used_insBy x r
      simp only [Files.used, List.map_cons, List.sum_cons] at this ⊢
      omega
theorem used_filter {l : Files} (h : l.Rising) (n : Str) : Files.used (l.filter fun p => !(p.1 == n)) + ((l.get n).getD []).length = Files.used l := by
  induction l with
  | nil => simp [Files.used, Files.get]
  | cons x r ih =>
    obtain ⟨h1, h2⟩ := List.pairwise_cons.1 h
    have ih := ih h2
    by_cases e : x.1 = n
    · have hn : Files.get r n = none := get_none.2 fun p hp e2 => by
        have : bytesBefore x.1 p.1 = true := h1 p hp
        rw [e, e2, bb_irrefl] at this
        cases this
      rw [hn] at ih
      have hg : Files.get (x :: r) n = some x.2 := by simp [Files.get, e]
      rw [hg]
      simp only [Files.used, List.filter_cons, e, beq_self_eq_true, Bool.not_true, Bool.false_eq_true, if_false, List.map_cons, List.sum_cons, Option.getD_some, Option.getD_none, List.length_nil, Nat.add_zero] at ih ⊢
      omega
    · have hg : Files.get (x :: r) n = Files.get r n := by simp [Files.get, e]
      rw [hg]
      have e' : (x.1 == n) = false := by simpa using e
      simp only [Files.used, List.filter_cons, e', Bool.not_false, if_true, List.map_cons, List.sum_cons] at ih ⊢
      omega
theorem used_put {l : Files} (h : l.Rising) (n b : Str) : Files.used (l.put n b) + ((l.get n).getD []).length = Files.used l + b.length := by
  have h1 := used_filter h n
  unfold Files.put
  rw [used_insBy]
  simp only
  omega
theorem used_ge {l : Files} {n b : Str} (h : (n, b) ∈ l) : b.length ≤ Files.used l := by
  induction l with
  | nil => simp at h
  | cons x r ih =>
    simp only [Files.used, List.map_cons, List.sum_cons] at ih ⊢
    rcases List.mem_cons.1 h with rfl | h
    · simp
    · have := ih h; omega
theorem get_le_used (l : Files) (n : Str) : ((l.get n).getD []).length ≤ Files.used l := by
  cases h : l.get n with
  | none => simp
  | some b => exact used_ge (get_some h)
theorem used_le {l : Files} {m : Nat} (h : ∀ p ∈ l, p.2.length ≤ m) : Files.used l ≤ l.length * m := by
  induction l with
  | nil => simp [Files.used]
  | cons x r ih =>
    have h1 := ih fun p hp => h p (by simp [hp])
    have h2 := h x (by simp)
    simp only [Files.used, List.map_cons, List.sum_cons, List.length_cons, Nat.add_mul, Nat.one_mul] at h1 ⊢
    omega
def leftUsed (l : Files) (left : Lit → Bool) : Nat := Files.used (l.filter fun p => left (.string p.1))
theorem leftUsed_all (l : Files) {left : Lit → Bool} (h : ∀ p ∈ l, left (.string p.1) = true) : leftUsed l left = Files.used l := by
  unfold leftUsed
  rw [List.filter_eq_self.2 h]
theorem leftUsed_none (l : Files) {left : Lit → Bool} (h : ∀ k, left k = false) : leftUsed l left = 0 := by
  unfold leftUsed
  rw [List.filter_eq_nil_iff.2 fun p _ => by simp [h]]
  rfl
theorem leftUsed_step {l : Files} (h : l.Rising) {left : Lit → Bool} {n b : Str} (hm : (n, b) ∈ l) (hl : left (.string n) = true) :
    leftUsed l left = b.length + leftUsed l (fun z => left z && !z.sameKey (.string n)) := by
  unfold leftUsed
  have hr : Files.Rising (l.filter fun p => left (.string p.1)) := h.filter _
  have hm' : (n, b) ∈ l.filter fun p => left (.string p.1) := List.mem_filter.2 ⟨hm, hl⟩
  have h1 := used_filter hr n
  rw [get_of_mem hr hm', List.filter_filter] at h1
  have e : (fun p : Str × Str => (!(p.1 == n)) && left (.string p.1)) = fun p => left (.string p.1) && !(Lit.string p.1).sameKey (.string n) := by
    funext p
    rw [Bool.and_comm]
    rfl
  rw [e] at h1
  simp only [Option.getD_some] at h1
  rw [← h1, Nat.add_comm]
structure Ch where
  name : Str
  b : Str
  gone : Bool
def Ch.act (c : Ch) (l : Files) : Files := if c.gone then l.del c.name else l.put c.name c.b
def Ch.half (c : Ch) : Ch := { c with b := c.b.take (c.b.length / 2) }
theorem act_rising {l : Files} (h : l.Rising) (c : Ch) : (c.act l).Rising := by
  unfold Ch.act
  split
  · exact del_rising h _
  · exact put_rising h _ _
theorem act_length (l : Files) (c : Ch) : (c.act l).length ≤ l.length + 1 := by
  unfold Ch.act
  split
  · have := del_length l c.name; omega
  · exact put_length _ _ _
theorem mem_act {l : Files} {c : Ch} {p : Str × Str} (h : p ∈ c.act l) : p = (c.name, c.b) ∨ p ∈ l := by
  unfold Ch.act at h
  split at h
  · exact .inr (mem_del.1 h).1
  · rcases mem_put.1 h with h | h
    · exact .inl h
    · exact .inr h.1
structure V where
  now : Files
  kept : Files
  since : List Ch
  room : Nat
  stop : Nat
  ops : Nat
  dead : Bool
def mostRoom : Nat := 1048576
def roomOf (r : Int) : Nat := min r.toNat mostRoom
def V.new (r : Int) : V := ⟨[], [], [], roomOf r, 0, 0, false⟩
def V.step (s : V) : V := { s with ops := s.ops + 1, stop := s.stop - 1, dead := if s.stop = 0 then s.dead else decide (s.stop = 1) }
def V.done (s : V) (c : Ch) : V := V.step { s with now := c.act s.now, since := s.since ++ [c] }
def deadNo (d : Bool) : Int := if d then 15 else 0
def V.write (s : V) (n b : Str) : V × Int :=
  if s.dead then (s, 15) else if n = [] ∨ 20 < n.length then (s, 12)
  else if s.room < s.now.used - ((s.now.get n).getD []).length + b.length then (s, 14) else (s.done ⟨n, b, false⟩, deadNo (s.done ⟨n, b, false⟩).dead)
def V.remove (s : V) (n : Str) : V × Int :=
  if s.dead then (s, 15) else if (s.now.get n).isSome then (s.done ⟨n, [], true⟩, deadNo (s.done ⟨n, [], true⟩).dead) else (s, 2)
def V.flush (s : V) : V × Int :=
  if s.dead then (s, 15) else if s.step.dead then (s.step, 15) else ({ s.step with kept := s.now, since := [] }, 0)
def V.stopAt (s : V) (n : Int) : V := { s with stop := n.toNat }
def crashF (l : Files) : List Ch → List Int → Files
  | c :: cs, k :: ks => crashF (if k = 1 then c.act l else if k = 2 then c.half.act l else l) cs ks
  | _, _ => l
def V.crash (s : V) (keep : List Int) : V := { s with now := crashF s.kept s.since keep, kept := crashF s.kept s.since keep, since := [], stop := 0, dead := false }
structure V.Ok (s : V) : Prop where
  now : s.now.Rising
  kept : s.kept.Rising
  nowB : ∀ p ∈ s.now, p.1.length ≤ 20 ∧ p.2.length ≤ mostRoom
  keptB : ∀ p ∈ s.kept, p.1.length ≤ 20 ∧ p.2.length ≤ mostRoom
  sinceB : ∀ c ∈ s.since, c.name.length ≤ 20 ∧ c.b.length ≤ mostRoom
  nowL : s.now.length ≤ s.ops
  keptL : s.kept.length + s.since.length ≤ s.ops
  room : s.room ≤ mostRoom
theorem ok_new (r : Int) : (V.new r).Ok := ⟨List.Pairwise.nil, List.Pairwise.nil, by simp [V.new], by simp [V.new], by simp [V.new], Nat.le_refl _, Nat.le_refl _, Nat.min_le_right _ _⟩
theorem ok_done {s : V} (h : s.Ok) {c : Ch} (hn : c.name.length ≤ 20) (hb : c.b.length ≤ mostRoom) : (s.done c).Ok := by
  refine ⟨act_rising h.now c, h.kept, fun p hp => ?_, h.keptB, fun d hd => ?_, ?_, ?_, h.room⟩
  · rcases mem_act hp with rfl | hp
    · exact ⟨hn, hb⟩
    · exact h.nowB p hp
  · rcases List.mem_append.1 hd with hd | hd
    · exact h.sinceB d hd
    · have : d = c := by simpa using hd
      subst this
      exact ⟨hn, hb⟩
  · have h1 := act_length s.now c
    have h2 := h.nowL
    show (c.act s.now).length ≤ s.ops + 1
    omega
  · have h2 := h.keptL
    show s.kept.length + (s.since ++ [c]).length ≤ s.ops + 1
    simp
    omega
theorem ok_step {s : V} (h : s.Ok) : s.step.Ok := ⟨h.now, h.kept, h.nowB, h.keptB, h.sinceB, Nat.le_succ_of_le h.nowL, Nat.le_succ_of_le h.keptL, h.room⟩
theorem ok_flush {s : V} (h : s.Ok) : s.flush.1.Ok := by
  unfold V.flush
  split
  · exact h
  · split
    · exact ok_step h
    · exact ⟨h.now, h.now, h.nowB, h.nowB, by simp, Nat.le_succ_of_le h.nowL, Nat.le_succ_of_le h.nowL, h.room⟩
theorem ok_stopAt {s : V} (h : s.Ok) (n : Int) : (s.stopAt n).Ok := ⟨h.now, h.kept, h.nowB, h.keptB, h.sinceB, h.nowL, h.keptL, h.room⟩
theorem half_b (c : Ch) : c.half.b.length ≤ c.b.length := by
  show (c.b.take (c.b.length / 2)).length ≤ _
  rw [List.length_take]
  omega
theorem crashF_ok : ∀ (cs : List Ch) (ks : List Int) (l : Files), l.Rising → (∀ p ∈ l, p.1.length ≤ 20 ∧ p.2.length ≤ mostRoom) → (∀ c ∈ cs, c.name.length ≤ 20 ∧ c.b.length ≤ mostRoom) →
    (crashF l cs ks).Rising ∧ (∀ p ∈ crashF l cs ks, p.1.length ≤ 20 ∧ p.2.length ≤ mostRoom) ∧ (crashF l cs ks).length ≤ l.length + cs.length
  | [], ks, l, h1, h2, h3 => ⟨h1, h2, by simp [crashF]⟩
  | c :: cs, [], l, h1, h2, h3 => ⟨h1, h2, by simp [crashF]⟩
  | c :: cs, k :: ks, l, h1, h2, h3 => by
    have hc := h3 c (by simp)
    have hh := half_b c
    have key : ∀ d : Ch, d.name.length ≤ 20 → d.b.length ≤ mostRoom → (d.act l).Rising ∧ (∀ p ∈ d.act l, p.1.length ≤ 20 ∧ p.2.length ≤ mostRoom) ∧ (d.act l).length ≤ l.length + 1 := fun d hn hb =>
      ⟨act_rising h1 d, fun p hp => by
        rcases mem_act hp with rfl | hp
        · exact ⟨hn, hb⟩
        · exact h2 p hp, act_length l d⟩
    have step : ∀ l' : Files, l'.Rising → (∀ p ∈ l', p.1.length ≤ 20 ∧ p.2.length ≤ mostRoom) → l'.length ≤ l.length + 1 →
        (crashF l' cs ks).Rising ∧ (∀ p ∈ crashF l' cs ks, p.1.length ≤ 20 ∧ p.2.length ≤ mostRoom) ∧ (crashF l' cs ks).length ≤ l.length + (c :: cs).length := fun l' a1 a2 a3 => by
      obtain ⟨b1, b2, b3⟩ := crashF_ok cs ks l' a1 a2 fun d hd => h3 d (by simp [hd])
      exact ⟨b1, b2, by simp; omega⟩
    unfold crashF
    split
    · obtain ⟨a1, a2, a3⟩ := key c hc.1 hc.2
      exact step _ a1 a2 a3
    · split
      · obtain ⟨a1, a2, a3⟩ := key c.half hc.1 (by omega)
        exact step _ a1 a2 a3
      · exact step _ h1 h2 (by omega)
theorem ok_crash {s : V} (h : s.Ok) (keep : List Int) : (s.crash keep).Ok := by
  obtain ⟨h1, h2, h3⟩ := crashF_ok s.since keep s.kept h.kept h.keptB h.sinceB
  have h4 := h.keptL
  refine ⟨h1, h1, h2, h2, by simp [V.crash], ?_, ?_, h.room⟩
  · show (crashF s.kept s.since keep).length ≤ s.ops
    omega
  · show (crashF s.kept s.since keep).length + 0 ≤ s.ops
    omega
theorem used_small {s : V} (h : s.Ok) (ho : s.ops ≤ 1000000) : s.now.used ≤ 1000000 * mostRoom := by
  have h1 := used_le fun p hp => (h.nowB p hp).2
  have h2 := h.nowL
  exact Nat.le_trans h1 (Nat.mul_le_mul_right _ (by omega))
end Go.Proofs.Ytcfbkhgdlgnmgaa
set_option linter.unusedVariables false
set_option maxRecDepth 100000
set_option linter.unusedSimpArgs false
namespace Go.Proofs.Ytcfbkhgdlgnmgaa.Cd
open Go.RowKit
theorem info_u8 : (Try.prog.info? 5).map (fun i => (i.zero, i.size, i.bytes)) = some (some (.int .u8 0), 1, 1) := by kernel_rfl
theorem size_u8 : (Try.prog.info? 5).map (·.size) = some 1 := by kernel_rfl
theorem low_cell0 (v n k : Nat) (hlt : k < n) : ((le v k).map bv ++ List.replicate (n - k) (Value.int .u8 0))[k]? = some (.int .u8 0) := by
  rw [List.getElem?_append_right (by simp [le_length]), List.getElem?_replicate, if_pos (by simp [le_length]; try omega)]
theorem low_step (v n k : Nat) (hlt : k < n) :
    ((le v k).map bv ++ List.replicate (n - k) (Value.int .u8 0)).set k (.int .u8 ((v : Int) / 2 ^ (8 * k) % 256)) = (le v (k + 1)).map bv ++ List.replicate (n - (k + 1)) (Value.int .u8 0) := by
  rw [List.set_append_right _ _ (by simp [le_length])]
  have e : n - k = (n - (k + 1)) + 1 := by omega
  have e2 : le v (k + 1) = le v k ++ [UInt8.ofNat (v / 2 ^ (8 * k))] := by simp [le, List.range_succ]
  have e3 : bv (UInt8.ofNat (v / 2 ^ (8 * k))) = .int .u8 ((v : Int) / 2 ^ (8 * k) % 256) := by
    simp [bv]
  rw [e, List.replicate_succ, e2]
  simp [le_length, e3]
theorem low_any (v n : Nat) (w : World) (hv : v < 18446744073709551616) (hn : n ≤ 8) :
    Calls Try.prog 84 #[.int .u64 v, .int .i64 n] w fun e w' => e = .returned (.slice (some ⟨w.heap.size, 0, none⟩) n n) ∧
      Row w' w.heap.size 5 ((le v n).map bv) ∧ Gr w w' := by
  obtain ⟨i0, hi, hz0, hz1, hz2⟩ := info_parts info_u8
  go_enter Try.func84, Try.ntmps84
  go_wp2_with (at_make; refine wpList_make_row _ rfl _ _ _ rfl 5 i0 _ Try.underlying29 hi hz0 hz1 rfl _ _ _ _ n rfl rfl rfl rfl (by rw [hz2]; omega) (by unfold maxLen; omega) ?_)
  intro w0 hrow hg hlt
  go_wp2
  go_loopw [11] (fun i wr => ∃ k : Nat, k ≤ n ∧ i = .int .i64 k ∧ Row wr w.heap.size 5 ((le v k).map bv ++ List.replicate (n - k) (.int .u8 0)) ∧ Gr w wr) (fun i _ => n - (intOf i).toNat)
  case atStart => exact ⟨0, Nat.zero_le _, rfl, hrow, hg⟩
  case round =>
    obtain ⟨k, hk, rfl, hr, hb⟩ := hrel
    by_cases hlt : k < n
    · have hc : wr.cell? ⟨w.heap.size, k, none⟩ = some (.int .u8 0) := by rw [hr.cell]; exact low_cell0 v n k hlt
      have hf := hr.frozen k
      go_wp2
      go_roundw
      case rel => exact ⟨k + 1, by omega, by go_num, by rw [← low_step v n k hlt]; exact hr.set k _, hb.setCell (Nat.le_refl _) _⟩
      case measure => simp [intOf]; omega
    · obtain rfl : k = n := by omega
      go_wp2
      go_ret
      exact ⟨rfl, by simpa using hr, hb⟩
theorem with_splices (xs ys : List Value) (Z : List Value) (hZ : Z.length = xs.length + ys.length) : splice (splice Z 0 xs) xs.length ys = xs ++ ys := by
  unfold splice
  simp [List.drop_eq_nil_of_le, hZ]
theorem with_row (xs ys : List UInt8) : splice (splice (List.replicate (xs.length + ys.length) (Value.int .u8 0)) 0 (xs.map bv)) xs.length (ys.map bv) = (xs ++ ys).map bv := by
  have := with_splices (xs.map bv) (ys.map bv) (List.replicate (xs.length + ys.length) (Value.int .u8 0)) (by simp)
  simpa using this
theorem with_any (A B : Option Addr) (c d : Nat) (xs ys : List UInt8) (w : World) (hx : Rd w A (xs.map bv)) (hy : Rd w B (ys.map bv)) (hl : xs.length + ys.length ≤ 140737488351232) :
    Calls Try.prog 83 #[.agg #[.slice A xs.length c], .slice B ys.length d] w fun e w' => ∃ g, e = .returned (.slice (some ⟨g, 0, none⟩) (xs.length + ys.length) (xs.length + ys.length)) ∧
      w.heap.size ≤ g ∧ Row w' g 5 ((xs ++ ys).map bv) ∧ Gr w w' := by
  obtain ⟨i0, hi, hz0, hz1, hz2⟩ := info_parts info_u8
  go_enter Try.func83, Try.ntmps83
  go_wp2_with (at_make; refine wpList_make_row _ rfl _ _ _ rfl 5 i0 _ Try.underlying29 hi hz0 hz1 rfl _ _ _ _ (xs.length + ys.length) rfl rfl (by push_cast; rfl) (by push_cast; rfl) (by rw [hz2]; omega) (by unfold maxLen; omega) ?_)
  intro w0 hrow hg hlt
  have hbox : w0.cell? ⟨w.heap.size, 0, none⟩ = some (.slice A xs.length c) := hg.cell (by simp)
  have hbel : Gr w w0 := Gr.trans' ((Below.refl _ _).alloc (Nat.le_refl _) _) hg
  clear hg
  go_wp2_with (first
    | (with_reducible refine wpList_copy_row (o := ⟨some 17, _, _, _, _, _⟩) rfl _ _ _ _ rfl 5 Try.underlying29 size_u8 _ _ _ _ _ _ rfl rfl _ 0 _ _ hrow (xs.map bv) (by simp) (fun _ => rfl) (hx.gr hbel) (by simp) (bv_one _) w.heap.size w hbel (by simp) ?_
       intro w1 hrow1 hbel1)
    | (with_reducible refine wpList_copy_row (o := ⟨some 20, _, _, _, _, _⟩) rfl _ _ _ _ rfl 5 Try.underlying29 size_u8 _ _ _ _ _ _ rfl rfl _ xs.length _ _ hrow1 (ys.map bv) (by simp) (fun h => by have hne : ys ≠ [] := (fun e => by rw [e] at h; simp at h); simp [hne]) (hy.gr hbel1) (by simp [splice]) (bv_one _) w.heap.size w hbel1 (by simp) ?_
       intro w2 hrow2 hbel2))
  all_goals
    go_ret
    exact ⟨w.heap.size + 1, rfl, by omega, by have h2 := hrow2; rw [with_row] at h2; first | simpa using h2 | simpa [*] using h2, hbel2⟩
def FreshB (w : World) (bs : List UInt8) (e : Ending) (w' : World) : Prop :=
  ∃ g n, e = .returned (.slice (some ⟨g, 0, none⟩) n n) ∧ Hid (bs.length = n) ∧ w.heap.size ≤ g ∧ Row w' g 5 (bs.map bv) ∧ Gr w w'
theorem with_fresh (A B : Option Addr) (n m c d : Nat) (xs ys : List UInt8) (w : World) (hn : Hid (xs.length = n)) (hm : Hid (ys.length = m)) (hx : Rd w A (xs.map bv)) (hy : Rd w B (ys.map bv)) (hl : n + m ≤ 140737488351232) :
    Calls Try.prog 83 #[.agg #[.slice A n c], .slice B m d] w (FreshB w (xs ++ ys)) := by
  obtain rfl := hn.out
  obtain rfl := hm.out
  exact (with_any A B c d xs ys w hx hy hl).mono fun e w' ⟨g, he, h1, h2, h3⟩ => ⟨g, _, he, Lib.hid (by simp), h1, h2, h3⟩
end Go.Proofs.Ytcfbkhgdlgnmgaa.Cd
set_option linter.unusedVariables false
set_option maxRecDepth 100000
set_option linter.unusedSimpArgs false
namespace Go.Proofs.Ytcfbkhgdlgnmgaa.Cd
open Go.RowKit
abbrev Rs := List UInt8 × Int
def RdrAt (w : World) (g : Nat) (s : Rs) : Prop :=
  ∃ A c, Row w g 126 [.slice A s.1.length c, .int .i64 s.2] ∧ Rd w A (s.1.map bv) ∧ s.1.length ≤ c ∧ c ≤ maxLen ∧ ∀ ad, A = some ad → ad.block < g
def takeS (s : Rs) (n : Nat) : List UInt8 × Rs := if s.2 = 0 then (if n ≤ s.1.length then (s.1.take n, (s.1.drop n, 0)) else ([], (s.1, 8))) else ([], s)
theorem rdr_cells (A : Option Addr) (n c : Nat) (e : Int) : ∀ x ∈ [Value.slice A n c, .int .i64 e], ∀ b, bv b ≠ x := by
  intro x hx b
  simp only [List.mem_cons, List.not_mem_nil, or_false] at hx
  rcases hx with rfl | rfl
  · exact bv_ne_slice _ _ _ _
  · exact bv_ne_int _ _
theorem new_any (A : Option Addr) (c : Nat) (bs : List UInt8) (w : World) (hx : Rd w A (bs.map bv)) (hl : bs.length ≤ 140737488351232) :
    Calls Try.prog 68 #[.slice A bs.length c] w fun e w' => ∃ g, e = .returned (.pointer (some ⟨g, 0, none⟩)) ∧ w.heap.size ≤ g ∧ RdrAt w' g (bs, 0) ∧ Gr w w' := by
  go_enter Try.func68, Try.ntmps68
  go_wp2_with (go_at_call 83; refine (with_any A none c 0 bs [] _ hx (Rd.nil _ _) (by simpa using hl)).mono ?_; rintro e w1 ⟨g, rfl, hgl, hr, hgr⟩)
  go_ret
  refine ⟨w1.heap.size, rfl, hgr.size, ⟨some ⟨g, 0, none⟩, bs.length, Row.new w1 _ _, ?_, Nat.le_refl _, by unfold maxLen; simp; omega, fun ad e => by injection e with e; subst e; exact hr.lt⟩, (hgr.alloc hgr.size _)⟩
  exact Rd.of_row' (t := 5) (by have h2 := hr.alloc (.cells #[.slice (some ⟨g, 0, none⟩) bs.length bs.length, .int .i64 0] 126); simpa using h2)
theorem take_more (g : Nat) (A : Option Addr) (n c : Nat) (k : Nat) (w : World) (hn : n ≤ maxLen) (hc : w.cell? ⟨g, 0, none⟩ = some (.slice A n c)) (hk : n < k) (hk2 : k ≤ maxLen) :
    Calls Try.prog 91 #[.pointer (some ⟨g, 0, none⟩), .int .i64 k] w fun e w' => e = .returned (.tuple #[.slice none 0 0, .bool false]) ∧ w = w' := by
  unfold maxLen at hn hk2
  have hk' : (n : Int) < k := by omega
  go_enter Try.func91, Try.ntmps91
  go_wp2
  go_ret2
  exact ⟨rfl, rfl⟩
theorem take_some (g : Nat) (A : Option Addr) (n c : Nat) (k : Nat) (w : World) (hn : n ≤ c) (hcm : c ≤ maxLen) (hc : w.cell? ⟨g, 0, none⟩ = some (.slice A n c)) (hf : w.frozen? ⟨g, 0, none⟩ = false) (hk : k ≤ n) :
    Calls Try.prog 91 #[.pointer (some ⟨g, 0, none⟩), .int .i64 k] w fun e w' => e = .returned (.tuple #[.slice A k c, .bool true]) ∧
      w.setCell ⟨g, 0, none⟩ (.slice (if c = k then A else A.map (·.add k)) (n - k) (c - k)) = w' := by
  unfold maxLen at hcm
  go_enter Try.func91, Try.ntmps91
  go_wp2
  all_goals
    go_ret2
    first | exact ⟨rfl, rfl⟩ | (refine ⟨?_, ?_⟩ <;> simp [*])
theorem takeS_fst_le (s : Rs) (n : Nat) : (takeS s n).1.length ≤ n := by
  unfold takeS
  split
  · split
    · simp; omega
    · simp
  · simp
def OutAt (w : World) (g : Nat) (o : List UInt8 × Rs) (e : Ending) (w' : World) : Prop :=
  ∃ A c, e = .returned (.slice A o.1.length c) ∧ Rd w' A (o.1.map bv) ∧ RdrAt w' g o.2 ∧ w.grownBy w' (some g)
theorem out_none {w : World} {g : Nat} {s : Rs} (h : RdrAt w g s) : OutAt w g ([], s) (.returned (.slice none 0 0)) w :=
  ⟨none, 0, rfl, Rd.nil _ _, h, only_refl _ _⟩
theorem out_cut {w : World} {g : Nat} {bs : List UInt8} (h : RdrAt w g (bs, 0)) : OutAt w g ([], (bs, 8)) (.returned (.slice none 0 0)) (w.setCell ⟨g, 1, none⟩ (.int .i64 8)) := by
  obtain ⟨A, c, hr, hd, hlc, hcm, hbk⟩ := h
  have ho := only_set w g 1 (.int .i64 8)
  exact ⟨none, 0, rfl, Rd.nil _ _, ⟨A, c, hr.set 1 _, hd.keep hr (rdr_cells _ _ _ _) ho, hlc, hcm, hbk⟩, ho⟩
theorem out_some {w : World} {g : Nat} {bs : List UInt8} {A : Option Addr} {c k : Nat} (hr : Row w g 126 [.slice A bs.length c, .int .i64 0]) (hd : Rd w A (bs.map bv)) (hlc : bs.length ≤ c) (hcm : c ≤ maxLen) (hk : k ≤ bs.length) (hbk : ∀ ad, A = some ad → ad.block < g)
    {v : Value} (hv : v = .slice (if c = k then A else A.map (·.add k)) (bs.length - k) (c - k)) :
    OutAt w g (bs.take k, (bs.drop k, 0)) (.returned (.slice A k c)) (w.setCell ⟨g, 0, none⟩ v) := by
  subst hv
  have ho := only_set w g 0 (.slice (if c = k then A else A.map (·.add k)) (bs.length - k) (c - k))
  have hd' := hd.keep hr (rdr_cells _ _ _ _) ho
  refine ⟨A, c, by simp [hk], by have := hd'.take k; simpa [List.map_take] using this, ⟨if c = k then A else A.map (·.add k), c - k, ?_, ?_, ?_, by omega, fun ad e => ?_⟩, ho⟩
  · have h2 := hr.set 0 (.slice (if c = k then A else A.map (·.add k)) (bs.length - k) (c - k))
    simpa using h2
  · have := hd'.cut (k := k) (cap := c) (by simpa using hk) (by simpa using hlc)
    simpa [List.map_drop] using this
  · simp; omega
  · split at e
    · exact hbk ad e
    · obtain ⟨b, hb, rfl⟩ := Option.map_eq_some_iff.1 e
      rw [block_of_add]
      exact hbk b hb
theorem out_some1 {w : World} {g : Nat} {bs : List UInt8} {A : Option Addr} {c k : Nat} (hr : Row w g 126 [.slice A bs.length c, .int .i64 0]) (hd : Rd w A (bs.map bv)) (hlc : bs.length ≤ c) (hcm : c ≤ maxLen) (hk : k ≤ bs.length) (hbk : ∀ ad, A = some ad → ad.block < g) (hck : c = k) :
    OutAt w g (bs.take k, (bs.drop k, 0)) (.returned (.slice A k k)) (w.setCell ⟨g, 0, none⟩ (.slice A (bs.length - k) 0)) := by
  have := out_some hr hd hlc hcm hk hbk rfl
  rw [if_pos hck] at this
  subst hck
  simpa using this
theorem out_some2 {w : World} {g : Nat} {bs : List UInt8} {A : Option Addr} {c k : Nat} (hr : Row w g 126 [.slice A bs.length c, .int .i64 0]) (hd : Rd w A (bs.map bv)) (hlc : bs.length ≤ c) (hcm : c ≤ maxLen) (hk : k ≤ bs.length) (hbk : ∀ ad, A = some ad → ad.block < g) (hck : ¬ c = k) :
    OutAt w g (bs.take k, (bs.drop k, 0)) (.returned (.slice A k c)) (w.setCell ⟨g, 0, none⟩ (.slice (A.map (·.add k)) (bs.length - k) (c - k))) := by
  have := out_some hr hd hlc hcm hk hbk rfl
  rw [if_neg hck] at this
  exact this
theorem takeS_some {bs : List UInt8} {k : Nat} (h : k ≤ bs.length) : takeS (bs, 0) k = (bs.take k, (bs.drop k, 0)) := by simp [takeS, h]
theorem takeS_more {bs : List UInt8} {k : Nat} (h : ¬ k ≤ bs.length) : takeS (bs, 0) k = ([], (bs, 8)) := by simp [takeS, h]
theorem takeS_err {bs : List UInt8} {k : Nat} {e : Int} (h : e ≠ 0) : takeS (bs, e) k = ([], (bs, e)) := by simp [takeS, h]
theorem bytes_any (g : Nat) (s : Rs) (k : Nat) (w : World) (hs : RdrAt w g s) (hk : k ≤ maxLen) :
    Calls Try.prog 86 #[.pointer (some ⟨g, 0, none⟩), .int .i64 k] w (OutAt w g (takeS s k)) := by
  obtain ⟨bs, er⟩ := s
  have hs' := hs
  obtain ⟨A, c, hr, hd, hlc, hcm, hbk⟩ := hs'
  simp only at hr hd hlc hcm
  have c0 : w.cell? ⟨g, 0, none⟩ = some (.slice A bs.length c) := by rw [hr.cell]; rfl
  have c1 : w.cell? ⟨g, 1, none⟩ = some (.int .i64 er) := by rw [hr.cell]; rfl
  have f0 := hr.frozen 0
  have f1 := hr.frozen 1
  by_cases he : er = 0
  · subst he
    by_cases hn : k ≤ bs.length
    · rw [takeS_some hn]
      go_enter Try.func86, Try.ntmps86
      go_wp2_with (go_at_call 91; refine (take_some g A bs.length c k _ hlc hcm c0 f0 hn).mono ?_; rintro e w' ⟨rfl, rfl⟩)
      all_goals
        go_ret
        first | exact out_some1 hr hd hlc hcm hn hbk (by assumption) | exact out_some2 hr hd hlc hcm hn hbk (by assumption)
    · rw [takeS_more hn]
      go_enter Try.func86, Try.ntmps86
      go_wp2_with (go_at_call 91; refine (take_more g A bs.length c k _ (by omega) c0 (by omega) hk).mono ?_; rintro e w' ⟨rfl, rfl⟩)
      go_ret
      exact out_cut hs
  · rw [takeS_err he]
    have hne : (er != 0) = true := by simp [he]
    go_enter Try.func86, Try.ntmps86
    go_wp2
    go_ret
    exact out_none hs
def num : List UInt8 → Nat
  | [] => 0
  | b :: r => b.toNat + 256 * num r
theorem num_lt (l : List UInt8) : num l < 256 ^ l.length := by
  induction l with
  | nil => simp [num]
  | cons b r ih =>
    have hb := b.toNat_lt
    simp only [num, List.length_cons, Nat.pow_succ]
    omega
theorem num_snoc (l : List UInt8) (b : UInt8) : num (l ++ [b]) = num l + 256 ^ l.length * b.toNat := by
  induction l with
  | nil => simp [num]
  | cons x r ih =>
    have e : 256 ^ r.length * 256 * b.toNat = 256 * (256 ^ r.length * b.toNat) := by rw [Nat.mul_comm (256 ^ r.length) 256, Nat.mul_assoc]
    simp only [List.cons_append, num, ih, List.length_cons, Nat.pow_succ, e]
    omega
theorem pow256 (j : Nat) : (256 : Nat) ^ j = 2 ^ (8 * j) := by rw [show (256 : Nat) = 2 ^ 8 from rfl, ← Nat.pow_mul]
theorem num_or (l : List UInt8) (b : UInt8) (hl : l.length < 8) :
    bits .or .u64 (num l : Int) (IntKind.u64.wrap (IntKind.u64.wrap (b.toNat : Int) * 2 ^ (8 * l.length))) = (num (l ++ [b]) : Int) := by
  have hn := num_lt l
  have hb := b.toNat_lt
  have hp : 256 ^ l.length * 256 ≤ 18446744073709551616 := by
    have : 256 ^ (l.length + 1) ≤ 256 ^ 8 := Nat.pow_le_pow_right (by omega) (by omega)
    rw [Nat.pow_succ] at this
    simpa using this
  have hm : b.toNat * 256 ^ l.length < 18446744073709551616 := Nat.lt_of_lt_of_le (by rw [Nat.mul_comm]; exact Nat.mul_lt_mul_of_pos_left hb (Nat.pow_pos (by omega))) hp
  have e1 : IntKind.u64.wrap (b.toNat : Int) = b.toNat := by rw [IntKind.wrap_u64]; omega
  have e2 : (b.toNat : Int) * 2 ^ (8 * l.length) = ((b.toNat * 256 ^ l.length : Nat) : Int) := by rw [pow256]; push_cast; rfl
  have e3 : IntKind.u64.wrap ((b.toNat * 256 ^ l.length : Nat) : Int) = ((b.toNat * 256 ^ l.length : Nat) : Int) := by rw [IntKind.wrap_u64]; omega
  have h1 : num l < 18446744073709551616 := Nat.lt_of_lt_of_le hn (Nat.le_trans (Nat.le_mul_of_pos_right _ (by omega)) hp)
  rw [e1, e2, e3, u64_or_nat _ _ h1 hm, num_snoc, pow256, Nat.or_comm, Nat.mul_comm (2 ^ _) b.toNat]
  rw [pow256] at hn
  have := Nat.two_pow_add_eq_or_of_lt hn b.toNat
  rw [Nat.mul_comm] at this
  rw [← this]
  omega
def NumAt (k : IntKind) (w : World) (g : Nat) (n : Int) (s : Rs) (e : Ending) (w' : World) : Prop :=
  e = .returned (.int k n) ∧ RdrAt w' g s ∧ w.grownBy w' (some g)
theorem number_any (g : Nat) (s : Rs) (k : Nat) (w : World) (hs : RdrAt w g s) (hk : k ≤ 8) :
    Calls Try.prog 85 #[.pointer (some ⟨g, 0, none⟩), .int .i64 k] w (NumAt .u64 w g (num (takeS s k).1) (takeS s k).2) := by
  have hle := takeS_fst_le s k
  have H := Lib.hid (bytes_any g s k w hs (by unfold maxLen; omega))
  generalize takeS s k = o at *
  obtain ⟨out, s'⟩ := o
  simp only at hle
  go_enter Try.func85, Try.ntmps85
  go_wp2_with (go_at_call 86; refine H.out.mono ?_; rintro e w1 ⟨A, c, rfl, hd, hr, ho⟩)
  go_loop [5, 12] (fun v i => ∃ j : Nat, j ≤ out.length ∧ i = .int .i64 j ∧ v = .int .u64 (num (out.take j))) (fun _ i => out.length - (intOf i).toNat)
  case atStart => exact ⟨0, Nat.zero_le _, rfl, rfl⟩
  case round =>
    obtain ⟨j, hj, rfl, rfl⟩ := hrel
    by_cases hlt : j < out.length
    · obtain ⟨ad, rfl, hc⟩ := hd.at_ (k := j) (by simpa using hlt)
      simp only [List.getElem_map, bv] at hc
      have hl : (out.take j).length = j := by simp; omega
      have HE := Lib.hid (num_or (out.take j) out[j] (by omega))
      go_wp2
      go_round
      case rel => exact ⟨j + 1, by omega, by go_num, by
        have e := HE.out
        rw [hl] at e
        rw [e, List.take_succ_eq_append_getElem hlt]⟩
      case measure => simp [intOf]; omega
    · obtain rfl : j = out.length := by omega
      go_wp2
      go_ret
      exact ⟨by simp, hr, ho⟩
def byteS (s : Rs) : Int × Rs := ((num (takeS s 1).1 : Int), (takeS s 1).2)
def textS (s : Rs) : List UInt8 × Rs := takeS (takeS s 2).2 (num (takeS s 2).1)
def endS (s : Rs) : Int := if s.2 = 0 ∧ 0 < s.1.length then 9 else s.2
theorem num_small (s : Rs) (k : Nat) (hk : k ≤ 2) : num (takeS s k).1 < 65536 := by
  have h := num_lt (takeS s k).1
  have h2 : 256 ^ (takeS s k).1.length ≤ 256 ^ 2 := Nat.pow_le_pow_right (by omega) (Nat.le_trans (takeS_fst_le s k) hk)
  omega
theorem rByte_any (g : Nat) (s : Rs) (w : World) (hs : RdrAt w g s) :
    Calls Try.prog 69 #[.pointer (some ⟨g, 0, none⟩)] w (NumAt .i64 w g (byteS s).1 (byteS s).2) := by
  have hlt := num_small s 1 (by omega)
  have H := Lib.hid (number_any g s 1 w hs (by omega))
  unfold byteS
  generalize takeS s 1 = o at *
  obtain ⟨out, s'⟩ := o
  simp only at hlt ⊢
  go_enter Try.func69, Try.ntmps69
  go_wp2_with (go_at_call 85; refine H.out.mono ?_; rintro e w1 ⟨rfl, hr, ho⟩)
  go_ret
  exact ⟨rfl, hr, ho⟩
def StrAt (w : World) (g : Nat) (o : List UInt8 × Rs) (e : Ending) (w' : World) : Prop :=
  e = .returned (.string ⟨o.1.toArray⟩) ∧ RdrAt w' g o.2 ∧ w.grownBy w' (some g)
theorem rText_any (g : Nat) (s : Rs) (w : World) (hs : RdrAt w g s) :
    Calls Try.prog 70 #[.pointer (some ⟨g, 0, none⟩)] w (StrAt w g (textS s)) := by
  have hlt := num_small s 2 (by omega)
  have H := Lib.hid (number_any g s 2 w hs (by omega))
  have H2 : ∀ W, RdrAt W g (takeS s 2).2 → Calls Try.prog 86 #[.pointer (some ⟨g, 0, none⟩), .int .i64 (num (takeS s 2).1)] W (OutAt W g (textS s)) :=
    fun W h => bytes_any g _ _ W h (by unfold maxLen; omega)
  replace H2 := Lib.hid H2
  generalize textS s = o2 at *
  generalize takeS s 2 = o at *
  obtain ⟨out, s'⟩ := o
  obtain ⟨txt, s2⟩ := o2
  simp only at hlt
  go_enter Try.func70, Try.ntmps70
  go_wp2_with (first
    | (go_at_call 85; refine H.out.mono ?_; rintro e w1 ⟨rfl, hr, ho⟩)
    | (go_at_call 86; refine (H2.out _ (by assumption)).mono ?_; rintro e w2 ⟨A, c, rfl, hd, hr2, ho2⟩; have hcv := run_str hd 29 9 5 _ c rfl Try.underlying29 Try.underlying5 Try.underlying9))
  go_ret
  exact ⟨rfl, hr2, only_trans ho ho2⟩
theorem rEnd_any (g : Nat) (s : Rs) (w : World) (hs : RdrAt w g s) :
    Calls Try.prog 71 #[.pointer (some ⟨g, 0, none⟩)] w fun e w' => e = .returned (.int .i64 (endS s)) ∧ w = w' := by
  obtain ⟨bs, er⟩ := s
  obtain ⟨A, c, hr, hd, hlc, hcm, hbk⟩ := hs
  simp only at hr hd hlc hcm
  unfold maxLen at hcm
  have c0 : w.cell? ⟨g, 0, none⟩ = some (.slice A bs.length c) := by rw [hr.cell]; rfl
  have c1 : w.cell? ⟨g, 1, none⟩ = some (.int .i64 er) := by rw [hr.cell]; rfl
  unfold endS
  by_cases he : er = 0
  · subst he
    by_cases hn : 0 < bs.length
    · rw [if_pos ⟨rfl, hn⟩]
      go_enter Try.func71, Try.ntmps71
      go_wp2
      go_ret
      exact ⟨rfl, rfl⟩
    · rw [if_neg (fun h => hn h.2)]
      go_enter Try.func71, Try.ntmps71
      go_wp2
      go_ret
      exact ⟨rfl, rfl⟩
  · rw [if_neg (fun h => he h.1)]
    have hne : (er == 0) = false := by simp [he]
    go_enter Try.func71, Try.ntmps71
    go_wp2
    go_ret
    exact ⟨rfl, rfl⟩
end Go.Proofs.Ytcfbkhgdlgnmgaa.Cd
set_option linter.unusedVariables false
set_option maxRecDepth 100000
set_option linter.unusedSimpArgs false
namespace Go.Proofs.Ytcfbkhgdlgnmgaa.Cd
open Go.RowKit
def u64 (k : Int) : Nat := (k % 18446744073709551616).toNat
def u8 (k : Int) : UInt8 := UInt8.ofNat (k % 256).toNat
theorem u8_wrap (k : Int) : Value.int .u8 (IntKind.u8.wrap k) = bv (u8 k) := by
  have h : IntKind.u8.wrap k = k % 256 := by simp [IntKind.wrap, IntKind.bits, IntKind.signed]
  rw [h]
  unfold bv u8
  congr 1
  simp
  omega
def cutS (s : ByteArray) : List UInt8 := s.data.toList.take 65535
theorem hlen (l : List UInt8) : Hid (l.length = l.length) := Lib.hid rfl
theorem wByte_any (A : Option Addr) (n c : Nat) (bs : List UInt8) (k : Int) (w : World) (hn : Hid (bs.length = n)) (hx : Rd w A (bs.map bv)) (hl : n ≤ 140737488351200) :
    Calls Try.prog 64 #[.slice A n c, .int .i64 k] w (FreshB w (bs ++ [u8 k])) := by
  have hu := Lib.hid (u8_wrap k)
  have h1 := hlen [u8 k]
  go_enter Try.func64, Try.ntmps64
  go_wp2_with (go_at_call 83; refine (with_fresh _ _ _ _ _ _ _ _ _ hn h1 (hx.gr (Gr.alloc1 _ _)) (by have h1 := Row.new w 5 [bv (u8 k)]; rw [← hu.out] at h1; rw [List.map_cons, List.map_nil, ← hu.out]; exact Rd.of_row' h1) (by simp; omega)).mono ?_; rintro e w2 ⟨g, n2, rfl, hn2, hlt2, hr2, hg2⟩)
  go_ret
  exact ⟨g, n2, rfl, hn2, by simp at hlt2; omega, hr2, (Gr.alloc1 _ _).trans' hg2⟩
theorem cutS_small {s : ByteArray} (h : s.size ≤ 65535) : cutS s = s.data.toList := by
  unfold cutS
  exact List.take_of_length_le (by simpa using h)
theorem cutS_large {s : ByteArray} (h : 65535 < s.size) : cutS s = (s.extract 0 65535).data.toList := by
  unfold cutS
  rw [Lib.extract_data]
  simp
set_option maxHeartbeats 4000000 in
theorem wText_any (A : Option Addr) (n c : Nat) (bs : List UInt8) (s : ByteArray) (w : World) (hn : Hid (bs.length = n)) (hx : Rd w A (bs.map bv)) (hl : n ≤ 140737488285000) (hs : s.size ≤ maxLen) :
    Calls Try.prog 65 #[.slice A n c, .string s] w (FreshB w (bs ++ le (cutS s).length 2 ++ cutS s)) := by
  unfold maxLen at hs
  by_cases h : s.size ≤ 65535
  · rw [cutS_small h]
    have e : s.data.toList.length = s.size := by simp
    have he := Lib.hid e
    rw [e]
    have H := Lib.hid (fun W => low_any s.size 2 W (by omega) (by omega))
    have hl2 := Lib.hid (le_length s.size 2)
    clear e
    generalize hL : le s.size 2 = L at *
    clear hL
    have hlm : Hid ((bs ++ L).length = n + 2) := by have := hn.out; have := hl2.out; exact Lib.hid (by rw [List.length_append]; omega)
    go_enter Try.func65, Try.ntmps65
    go_wp2_with (first
      | (go_at_call 84; refine (H.out _).mono ?_; rintro e w1 ⟨rfl, hr1, hg1⟩)
      | (go_at_call 83; (with_reducible refine (with_fresh _ _ _ _ _ _ _ _ _ hn hl2 (hx.gr hg1) (Rd.of_row' hr1) (by omega)).mono ?_); rintro e w2 ⟨g, n2, rfl, hn2, hlt2, hr2, hg2⟩)
      | (with_reducible refine wp_conv_bytes _ rfl Try.underlying9 Try.underlying29 Try.underlying5 ?_; intro g3 c3 w3 hr3 hg3)
      | (go_at_call 83; (with_reducible refine (with_fresh _ _ _ _ _ _ _ _ _ hn2 he (Rd.of_row' (hr2.gr hg3)) hr3 (by have := hn2.out; have := hlm.out; omega)).mono ?_); rintro e w4 ⟨g4, n4, rfl, hn4, hlt4, hr4, hg4⟩))
    go_ret
    exact ⟨g4, n4, rfl, hn4, by have := hg1.size; have := hg2.size; have := hg3.size; omega, hr4, ((hg1.trans' hg2).trans' hg3).trans' hg4⟩
  · rw [cutS_large (by omega)]
    have e : (s.extract 0 65535).data.toList.length = min 65535 s.size := by simp
    have he := Lib.hid e
    rw [e]
    have H := Lib.hid (fun W => low_any (min 65535 s.size) 2 W (by omega) (by omega))
    have hl2 := Lib.hid (le_length (min 65535 s.size) 2)
    clear e
    generalize hL : le (min 65535 s.size) 2 = L at *
    clear hL
    have hlm : Hid ((bs ++ L).length = n + 2) := by have := hn.out; have := hl2.out; exact Lib.hid (by rw [List.length_append]; omega)
    go_enter Try.func65, Try.ntmps65
    go_wp2_with (first
      | (go_at_call 84; refine (H.out _).mono ?_; rintro e w1 ⟨rfl, hr1, hg1⟩)
      | (go_at_call 83; (with_reducible refine (with_fresh _ _ _ _ _ _ _ _ _ hn hl2 (hx.gr hg1) (Rd.of_row' hr1) (by omega)).mono ?_); rintro e w2 ⟨g, n2, rfl, hn2, hlt2, hr2, hg2⟩)
      | (with_reducible refine wp_conv_bytes _ rfl Try.underlying9 Try.underlying29 Try.underlying5 ?_; intro g3 c3 w3 hr3 hg3)
      | (go_at_call 83; (with_reducible refine (with_fresh _ _ _ _ _ _ _ _ _ hn2 he (Rd.of_row' (hr2.gr hg3)) hr3 (by have := hn2.out; have := hlm.out; omega)).mono ?_); rintro e w4 ⟨g4, n4, rfl, hn4, hlt4, hr4, hg4⟩))
    go_ret
    exact ⟨g4, n4, rfl, Lib.hid (by have := hn4.out; simpa using this), by have := hg1.size; have := hg2.size; have := hg3.size; omega, by simpa using hr4, ((hg1.trans' hg2).trans' hg3).trans' hg4⟩
end Go.Proofs.Ytcfbkhgdlgnmgaa.Cd
set_option linter.unusedVariables false
namespace Go.Proofs.Ytcfbkhgdlgnmgaa.Cd
open Go.RowKit
end Go.Proofs.Ytcfbkhgdlgnmgaa.Cd
