/- append onto a slice of the call's own, of elements of k cells; the old slice reads as it did. -/
import Derived.Test.YtopellbmmkflgaaBase
import Derived.Lib.AppendStr
import Derived.Maps.AppendAt
set_option linter.unusedVariables false
set_option linter.unusedSimpArgs false
namespace Go.Proofs.Ytopellbmmkflgaa
open Go.RowKit

/-- The slice '.slice A n c' of elements of type e (k cells each) owns the cells xs: it is nil, or it stands at the head of a row in a block from B on. -/
def Own (w : World) (B : Nat) (e : TypeId) (k : Nat) (A : Option Addr) (n c : Nat) (xs : List Value) : Prop :=
  xs.length = n * k ∧ ((A = none ∧ n = 0 ∧ c = 0) ∨ ∃ g rest, A = some ⟨g, 0, none⟩ ∧ B ≤ g ∧ Row w g e (xs ++ rest) ∧ n ≤ c ∧ c ≤ maxLen ∧ (xs ++ rest).length = c * k)

def blkOf : Option Addr → Option Nat
  | some a => some a.block
  | none => none

section
variable {w w' : World} {B B' : Nat} {e : TypeId} {k : Nat} {A : Option Addr} {n c : Nat} {xs : List Value}
theorem Own.nil (w : World) (B : Nat) (e : TypeId) (k : Nat) : Own w B e k none 0 0 [] := ⟨by simp, .inl ⟨rfl, rfl, rfl⟩⟩
theorem Own.empty (w : World) (e : TypeId) (k : Nat) : Own (w.alloc (.cells #[] e)) w.heap.size e k (some ⟨w.heap.size, 0, none⟩) 0 0 [] :=
  ⟨by simp, .inr ⟨w.heap.size, [], rfl, Nat.le_refl _, by simpa using Row.new w e [], Nat.le_refl _, by unfold maxLen; omega, by simp⟩⟩
theorem Own.of_row {g : Nat} (h : Row w g e xs) (hB : B ≤ g) (hl : xs.length = n * k) (hm : n ≤ maxLen) : Own w B e k (some ⟨g, 0, none⟩) n n xs :=
  ⟨hl, .inr ⟨g, [], rfl, hB, by simpa using h, Nat.le_refl _, hm, by simpa using hl⟩⟩
theorem Own.len (h : Own w B e k A n c xs) : xs.length = n * k := h.1
theorem Own.le (h : Own w B e k A n c xs) : n ≤ c ∧ c ≤ maxLen := by
  rcases h.2 with ⟨_, rfl, rfl⟩ | ⟨g, rest, _, _, _, h1, h2, _⟩
  · exact ⟨Nat.le_refl _, by unfold maxLen; omega⟩
  · exact ⟨h1, h2⟩
theorem Own.rd (h : Own w B e k A n c xs) : Rd w A xs := by
  rcases h.2 with ⟨_, rfl, _⟩ | ⟨g, rest, rfl, _, hr, _⟩
  · have : xs = [] := List.eq_nil_of_length_eq_zero (by simpa using h.1)
    rw [this]; exact Rd.nil _ _
  · exact Rd.of_row hr
theorem Own.blk (h : Own w B e k A n c xs) : ∀ g, blkOf A = some g → B ≤ g ∧ g < w.heap.size := by
  intro g hg
  rcases h.2 with ⟨rfl, _⟩ | ⟨g', rest, rfl, hb, hr, _⟩
  · cases hg
  · injection hg with hg
    subst hg
    exact ⟨hb, hr.lt⟩
theorem Own.more (h : Own w B e k A n c xs) (hB : ∀ g, blkOf A = some g → B' ≤ g) : Own w B' e k A n c xs := by
  refine ⟨h.1, ?_⟩
  rcases h.2 with h0 | ⟨g, rest, rfl, hb, r⟩
  · exact .inl h0
  · exact .inr ⟨g, rest, rfl, hB g rfl, r⟩
/-- Another block is written. -/
theorem Own.keep (h : Own w B e k A n c xs) {row : Option Nat} (hg : w.grownBy w' row) (hne : ∀ g, blkOf A = some g → row ≠ some g) : Own w' B e k A n c xs := by
  refine ⟨h.1, ?_⟩
  rcases h.2 with h0 | ⟨g, rest, rfl, hb, hr, r⟩
  · exact .inl h0
  · refine .inr ⟨g, rest, rfl, hb, ?_, r⟩
    exact (hg.block g hr.lt (fun e => hne g rfl e.symm)).trans hr
theorem Own.gr (h : Own w B e k A n c xs) (hb : Gr w w') : Own w' B e k A n c xs := h.keep (only_of_gr hb none) (fun _ _ => by simp)
theorem Own.alloc (h : Own w B e k A n c xs) (o : Obj) : Own (w.alloc o) B e k A n c xs := h.gr ((Below.refl _ _).alloc (Nat.le_refl _) _)
theorem Own.drew (h : Own w B e k A n c xs) : Own w.drew B e k A n c xs := h.gr (Gr.draw _)
theorem Own.drewN (h : Own w B e k A n c xs) (m : Nat) : Own (w.drewN m) B e k A n c xs := h.gr (Gr.drawN _ _)
end

/-- What an append leaves of the world: the old slice reads as it did; its row alone may have turned, or a new block was made. -/
def RowKeep (w w' : World) (A : Option Addr) (xs : List Value) : Prop :=
  ∀ g e rest, A = some ⟨g, 0, none⟩ → Row w g e (xs ++ rest) → ∃ rest', Row w' g e (xs ++ rest') ∧ rest'.length = rest.length
theorem RowKeep.gr {w w' : World} {A : Option Addr} {xs : List Value} (h : Gr w w') : RowKeep w w' A xs := fun g e rest _ hr => ⟨rest, hr.gr h, rfl⟩
theorem Own.back {w w' : World} {B : Nat} {e : TypeId} {k : Nat} {A : Option Addr} {n c : Nat} {xs : List Value} (h : Own w B e k A n c xs) (hk : RowKeep w w' A xs) : Own w' B e k A n c xs := by
  refine ⟨h.1, ?_⟩
  rcases h.2 with h0 | ⟨g, rest, hA, hb, hr, hn, hc, hl⟩
  · exact .inl h0
  · obtain ⟨rest', hr', hl'⟩ := hk g e rest hA hr
    exact .inr ⟨g, rest', hA, hb, hr', hn, hc, by rw [List.length_append, hl', ← List.length_append]; exact hl⟩
def AppK (w w' : World) (A A' : Option Addr) (xs : List Value) : Prop :=
  Rd w' A xs ∧ ((A' = A ∧ w.grownBy w' (blkOf A)) ∨ (A' = some ⟨w.heap.size, 0, none⟩ ∧ Gr w w')) ∧ RowKeep w w' A xs
theorem AppK.grown {w w' : World} {A A' : Option Addr} {xs : List Value} (h : AppK w w' A A' xs) : w.grownBy w' (blkOf A) := by
  rcases h.2.1 with ⟨_, hg⟩ | ⟨_, hg⟩
  · exact hg
  · exact only_of_gr hg _
theorem AppK.below {w w' : World} {A A' : Option Addr} {xs : List Value} {B : Nat} (h : AppK w w' A A' xs) (hB : ∀ g, blkOf A = some g → B ≤ g) (hw : B ≤ w.heap.size) : Below B w w' := by
  have hg := h.grown
  exact ⟨hg.os, hg.tape, hg.output, hg.size, fun i hi => hg.block i (by omega) (fun e => by have := hB i e.symm; omega)⟩

theorem row_same {w : World} {g : Nat} {t t' : TypeId} {xs ys : List Value} (h : Row w g t xs) (h' : Row w g t' ys) : t = t' ∧ xs = ys := by
  unfold Row at h h'
  rw [h] at h'
  injection h' with h'
  injection h' with h1 h2
  exact ⟨h2, by simpa using h1⟩
theorem row_setRow {w : World} {g : Nat} {t : TypeId} {xs : List Value} (h : Row w g t xs) (ys : List Value) : Row (w.setRow g ys.toArray) g t ys := setRow_heap w g _ _ t _ h
theorem grown_setRow (w : World) (g : Nat) (ys : Array Value) : w.grownBy (w.setRow g ys) (some g) :=
  ⟨rfl, rfl, rfl, by simp [World.setRow], fun k _ hk => setRow_other w g k _ (fun e => hk (by rw [e]))⟩
theorem gr_grow (w : World) (o : Obj) : Gr w (w.drew.alloc o) := (Gr.draw w).trans ((Below.refl w.heap.size w.drew).alloc (Nat.le_refl _) o)

section
variable {P : Program} (w : World)

/-- What the growing arm leaves. -/
theorem own_grown {z : Value} (B : Nat) (e : TypeId) (k : Nat) (hzs : z.cells.size = k) (n m old : Nat) (xs news : List Value) (hx : xs.length = n * k) (hl : news.length = m * k) (ho : old < n + m) (h63 : n + m ≤ maxLen) (hB : B ≤ w.heap.size) :
    Own (w.drew.alloc (.cells (xs.toArray ++ news.toArray ++ Builtin.zeroCells z.cells (grownCap w (n + m) old e - (n + m))) e)) B e k (some ⟨w.heap.size, 0, none⟩) (n + m) (grownCap w (n + m) old e) (xs ++ news) := by
  have hge := grownCap_ge w (n + m) old e
  have hcm : grownCap w (n + m) old e ≤ maxLen := grownCap_le_maxLen w (n + m) old e h63
  have hsz : (Builtin.zeroCells z.cells (grownCap w (n + m) old e - (n + m))).size = (grownCap w (n + m) old e - (n + m)) * k := by rw [size_zeroCells, hzs]
  refine ⟨by rw [List.length_append, hx, hl, Nat.add_mul], .inr ⟨w.heap.size, (Builtin.zeroCells z.cells (grownCap w (n + m) old e - (n + m))).toList, rfl, hB, ?_, hge, hcm, ?_⟩⟩
  · have := Row.new w.drew e ((xs ++ news) ++ (Builtin.zeroCells z.cells (grownCap w (n + m) old e - (n + m))).toList)
    have e1 : ((xs ++ news) ++ (Builtin.zeroCells z.cells (grownCap w (n + m) old e - (n + m))).toList).toArray = xs.toArray ++ news.toArray ++ Builtin.zeroCells z.cells (grownCap w (n + m) old e - (n + m)) := by
      apply Array.ext'
      simp
    rw [e1] at this
    exact this
  · have e2 : (Builtin.zeroCells z.cells (grownCap w (n + m) old e - (n + m))).toList.length = (grownCap w (n + m) old e - (n + m)) * k := by simpa using hsz
    rw [List.length_append, List.length_append, e2, hx, hl, ← Nat.add_mul, ← Nat.add_mul]
    congr 1
    omega

theorem run_append_none (t ty e : TypeId) (i : TypeInfo) (ht : P.underlying t = some (.slice e)) (hi : P.info? e = some i) (A : Option Addr) (n c d : Nat) (hnc : n ≤ c) :
    (Builtin.append_ #[t, t] ty #[.slice A n c, .slice none 0 d]).run P w = .ok (.slice A n c) w := by
  cases A with
  | none => simp [Builtin.append_, run_underlying ht, sizeOf, typeInfo, hi, Builtin.lenOf, Builtin.firstCells, hnc]
  | some a => simp [Builtin.append_, run_underlying ht, sizeOf, typeInfo, hi, Builtin.lenOf, Builtin.firstCells, hnc, storeCells]

theorem run_append (B : Nat) (t ty e : TypeId) (i : TypeInfo) (z : Value) (k bytes : Nat) (ht : P.underlying t = some (.slice e)) (hi : P.info? e = some i) (hz : i.zero = some z)
    (hsize : i.size = k) (hby : i.bytes = bytes) (hzs : z.cells.size = k) (hk : 0 < k)
    (A : Option Addr) (n c : Nat) (xs : List Value) (hown : Own w B e k A n c xs)
    (S : Option Addr) (m d : Nat) (news : List Value) (hl : news.length = m * k) (hnews : Rd w S news) (h1 : ∀ u ∈ news, u.oneCell' = true)
    (hbytes : (n + m) * bytes ≤ 140737488355328) (h63 : n + m ≤ maxLen) (hB : B ≤ w.heap.size) :
    ∃ A' c' w', (Builtin.append_ #[t, t] ty #[.slice A n c, .slice S m d]).run P w = .ok (.slice A' (n + m) c') w' ∧ Own w' B e k A' (n + m) c' (xs ++ news) ∧ AppK w w' A A' xs := by
  subst hsize
  subst hby
  have hx := hown.1
  have hle := hown.le
  have hrd := hown.rd
  cases S with
  | none =>
    have hn : news = [] := by
      cases hb : news with
      | nil => rfl
      | cons x r =>
        rw [hb] at hnews
        obtain ⟨ad, e, _⟩ := hnews 0 x (by simp)
        cases e
    have hm : m = 0 := by
      subst hn
      rcases Nat.eq_zero_or_pos m with h | h
      · exact h
      · have : 0 < m * i.size := Nat.mul_pos h hk
        simp at hl
        omega
    subst hn
    subst hm
    exact ⟨A, c, w, run_append_none w t ty e i ht hi A n c d hle.1, by simpa using hown, hrd, .inl ⟨rfl, only_refl _ _⟩, RowKeep.gr (Gr.rfl' _)⟩
  | some a =>
    have hnews' : ∀ j u, news[j]? = some u → w.cell? (a.add j) = some u := fun j u hu => by
      obtain ⟨ad, e, hc⟩ := hnews j u hu
      injection e with e
      subst e
      exact hc
    have h63' : ((n + m : Nat) : Int) ≤ 9223372036854775807 := by unfold maxLen at h63; omega
    rcases hown.2 with ⟨rfl, rfl, rfl⟩ | ⟨g, rest, rfl, hbg, hrow, hnc, hcm, hcs⟩
    · have hxe : xs = [] := List.eq_nil_of_length_eq_zero (by simpa using hx)
      subst hxe
      by_cases hm : m = 0
      · subst hm
        have hn : news = [] := List.eq_nil_of_length_eq_zero (by simpa using hl)
        subst hn
        refine ⟨none, 0, w, ?_, by simpa using hown, hrd, .inl ⟨rfl, only_refl _ _⟩, RowKeep.gr (Gr.rfl' _)⟩
        simp [Builtin.append_, run_underlying ht, sizeOf, typeInfo, hi, Builtin.lenOf, Builtin.firstCells, loadCells, loadCellsFrom]
      · have hr := run_append_nil (P := P) w t ty e i z ht hi hz a m d news hl hnews' (by omega) (by omega) (by have hb := hbytes; simp only [Nat.zero_add] at hb; omega)
        have hgr := own_grown w (z := z) B e i.size hzs 0 m 0 [] news (by simp) hl (by omega) h63 hB
        simp only [Nat.zero_add, List.nil_append, Array.empty_append] at hgr ⊢
        exact ⟨_, _, _, hr, hgr, Rd.nil _ _, .inr ⟨rfl, gr_grow _ _⟩, RowKeep.gr (gr_grow _ _)⟩
    · by_cases hroom : n + m ≤ c
      · have hlen : (xs ++ rest).length = c * i.size := hcs
        have hfit : n * i.size + news.length ≤ (xs ++ rest).toArray.size := by
          rw [hl, List.size_toArray, hcs, ← Nat.add_mul]
          exact Nat.mul_le_mul_right _ hroom
        have hr := run_append_room (P := P) w t ty e i ht hi g n c _ hrow a m d news hl hnews' h1 hroom hfit
        have et : (xs ++ rest).take (n * i.size) = xs := by rw [← hx]; exact List.take_left
        simp only [et] at hr
        have hrow' := row_setRow hrow (xs ++ news ++ (xs ++ rest).drop (n * i.size + news.length))
        refine ⟨_, _, _, hr, ⟨by rw [List.length_append, hx, hl, Nat.add_mul], .inr ⟨g, (xs ++ rest).drop (n * i.size + news.length), rfl, hbg, hrow', hroom, hcm, ?_⟩⟩, ?_, .inl ⟨rfl, grown_setRow _ _ _⟩, fun g' e' rest' hA hr' => ?_⟩
        · rw [List.size_toArray] at hfit
          simp only [List.length_append, List.length_drop] at hcs hfit ⊢
          rw [hx] at hcs hfit ⊢
          omega
        · refine Rd.of_row (t := e) (ys := news ++ (xs ++ rest).drop (n * i.size + news.length)) ?_
          rw [← List.append_assoc]
          exact hrow'
        · injection hA with hA
          injection hA with hA
          subst hA
          obtain ⟨rfl, hre⟩ := row_same hrow hr'
          refine ⟨news ++ (xs ++ rest).drop (n * i.size + news.length), by rw [← List.append_assoc]; exact hrow', ?_⟩
          have h2 := congrArg List.length hre
          rw [List.size_toArray] at hfit
          simp only [List.length_append, List.length_drop] at hcs hfit h2 ⊢
          rw [hx] at hcs hfit h2 ⊢
          omega
      · have holds : ∀ j u, xs[j]? = some u → w.cell? ((⟨g, 0, none⟩ : Addr).add j) = some u := fun j u hu => by
          obtain ⟨ad, e, hc⟩ := hrd j u hu
          injection e with e
          subst e
          exact hc
        have hr := run_append_grow (P := P) w t ty e i z ht hi hz ⟨g, 0, none⟩ n c xs hx holds a m d news hl hnews' (by omega) h63' (growslice_fits (by omega) hbytes)
        have hgr := own_grown w (z := z) B e i.size hzs n m c xs news hx hl (by omega) h63 hB
        exact ⟨_, _, _, hr, hgr, hrd.gr (gr_grow _ _), .inr ⟨rfl, gr_grow _ _⟩, RowKeep.gr (gr_grow _ _)⟩

/-- The same, a string's bytes being appended. -/
theorem run_append_string (B : Nat) (t u ty e : TypeId) (i : TypeInfo) (ht : P.underlying t = some (.slice e)) (hu : P.underlying u = some .string) (hi : P.info? e = some i) (hz : i.zero = some (.int .u8 0))
    (hsize : i.size = 1) (hby : i.bytes = 1)
    (A : Option Addr) (n c : Nat) (xs : List Value) (hown : Own w B e 1 A n c xs) (s : ByteArray)
    (hbytes : n + s.size ≤ 140737488355328) (hB : B ≤ w.heap.size) :
    ∃ A' c' w', (Builtin.append_ #[t, u] ty #[.slice A n c, .string s]).run P w = .ok (.slice A' (n + s.size) c') w' ∧ Own w' B e 1 A' (n + s.size) c' (xs ++ s.data.toList.map bv) ∧ AppK w w' A A' xs := by
  have hx : xs.length = n := by simpa using hown.1
  have hle := hown.le
  have hrd := hown.rd
  have hsl : (s.data.toList.map bv).length = s.size * 1 := by simp
  have hsc : Lib.strCells s = s.data.toList.map bv := rfl
  have hzs : (Value.int .u8 0).cells.size = 1 := rfl
  have h63 : n + s.size ≤ maxLen := by unfold maxLen; omega
  rcases hown.2 with ⟨rfl, rfl, rfl⟩ | ⟨g, rest, rfl, hbg, hrow, hnc, hcm, hcs⟩
  · have hxe : xs = [] := List.eq_nil_of_length_eq_zero hx
    subst hxe
    by_cases hm : s.size = 0
    · have hn : s.data.toList.map bv = [] := List.eq_nil_of_length_eq_zero (by rw [hsl, hm])
      refine ⟨none, 0, w, ?_, by rw [hn, hm]; simpa using hown, hrd, .inl ⟨rfl, only_refl _ _⟩, RowKeep.gr (Gr.rfl' _)⟩
      have hf := Lib.run_firstCells_string (P := P) w 1 s
      rw [hm] at hf
      simp [Builtin.append_, run_underlying ht, run_underlying hu, sizeOf, typeInfo, hi, hsize, Builtin.lenOf, hm, hf]
    · have hr := run_append_nil_string (P := P) w t u ty e i (.int .u8 0) ht hu hi hz s (by omega) (by omega) (by rw [hby]; omega)
      have e1 : (s.data.map fun b => Value.int .u8 b.toNat) = (s.data.toList.map bv).toArray := by
        apply Array.ext'
        simp [bv]
      rw [e1] at hr
      have hgr := own_grown w (z := .int .u8 0) B e 1 hzs 0 s.size 0 [] (s.data.toList.map bv) (by simp) hsl (by omega) h63 hB
      simp only [Nat.zero_add, List.nil_append, Array.empty_append] at hgr ⊢
      exact ⟨_, _, _, hr, hgr, Rd.nil _ _, .inr ⟨rfl, gr_grow _ _⟩, RowKeep.gr (gr_grow _ _)⟩
  · by_cases hroom : n + s.size ≤ c
    · have hcs' : (xs ++ rest).length = c := by simpa using hcs
      have hr := Lib.run_append_room_string (P := P) w t u ty e i ht hu hi hsize g n c _ hrow s hroom (by rw [List.size_toArray, hcs']; exact hroom)
      have et : (xs ++ rest).take n = xs := by rw [← hx]; exact List.take_left
      simp only [et, hsc] at hr
      have hrow' := row_setRow hrow (xs ++ s.data.toList.map bv ++ (xs ++ rest).drop (n + s.size))
      refine ⟨_, _, _, hr, ⟨by rw [List.length_append, hx, hsl]; omega, .inr ⟨g, (xs ++ rest).drop (n + s.size), rfl, hbg, hrow', hroom, hcm, ?_⟩⟩, ?_, .inl ⟨rfl, grown_setRow _ _ _⟩, fun g' e' rest' hA hr' => ?_⟩
      · rw [List.length_append, List.length_append, hsl, List.length_drop, hcs', hx]
        omega
      · refine Rd.of_row (t := e) (ys := s.data.toList.map bv ++ (xs ++ rest).drop (n + s.size)) ?_
        rw [← List.append_assoc]
        exact hrow'
      · injection hA with hA
        injection hA with hA
        subst hA
        obtain ⟨rfl, hre⟩ := row_same hrow hr'
        refine ⟨s.data.toList.map bv ++ (xs ++ rest).drop (n + s.size), by rw [← List.append_assoc]; exact hrow', ?_⟩
        have h2 := congrArg List.length hre
        rw [List.length_append, hsl, List.length_drop, hcs']
        simp only [List.length_append] at h2 hcs'
        omega
    · have holds : ∀ j u, xs[j]? = some u → w.cell? ((⟨g, 0, none⟩ : Addr).add j) = some u := fun j u hu => by
        obtain ⟨ad, e, hc⟩ := hrd j u hu
        injection e with e
        subst e
        exact hc
      have hr := Lib.run_append_grow_string (P := P) w t u ty e i (.int .u8 0) ht hu hi hz ⟨g, 0, none⟩ n c xs (by rw [hsize]; simpa using hx) holds s (by omega) (by omega) (by rw [hby]; exact growslice_fits (by omega) (by omega))
      rw [hsc] at hr
      have hgr := own_grown w (z := .int .u8 0) B e 1 hzs n s.size c xs (s.data.toList.map bv) (by simpa using hx) hsl (by omega) h63 hB
      exact ⟨_, _, _, hr, hgr, hrd.gr (gr_grow _ _), .inr ⟨rfl, gr_grow _ _⟩, RowKeep.gr (gr_grow _ _)⟩

/-- At the operation. -/
theorem wpList_append {ops : Array Oper} {rest : List Oper} {o : Oper} {a : Act} {Q : Exit → Act → World → Prop} (hgd : o.guard = none) (s x : Operand) (t : TypeId)
    (ho : o.op = .call { callee := .builtin .append, args := #[s, x], argTypes := #[t, t] })
    (B : Nat) (e : TypeId) (i : TypeInfo) (z : Value) (k bytes : Nat) (ht : P.underlying t = some (.slice e)) (hi : P.info? e = some i) (hz : i.zero = some z)
    (hsize : i.size = k) (hby : i.bytes = bytes) (hzs : z.cells.size = k) (hk : 0 < k)
    (A : Option Addr) (n c : Nat) (xs : List Value) (hs : a.eval s = .slice A n c) (hown : Own w B e k A n c xs)
    (S : Option Addr) (m d : Nat) (news : List Value) (hx : a.eval x = .slice S m d) (hl : news.length = m * k) (hnews : Rd w S news) (h1 : ∀ u ∈ news, u.oneCell' = true)
    (hbytes : (n + m) * bytes ≤ 140737488355328) (h63 : n + m ≤ maxLen) (hB : B ≤ w.heap.size)
    (h : ∀ A' c' w', Own w' B e k A' (n + m) c' (xs ++ news) → AppK w w' A A' xs → wpList P ops Q rest (a.put o.dst (.slice A' (n + m) c')) w') : wpList P ops Q (o :: rest) a w := by
  refine wpList_plain hgd fun K hK => ?_
  obtain ⟨A', c', w', hr, h2, h3⟩ := run_append (P := P) w B t o.type e i z k bytes ht hi hz hsize hby hzs hk A n c xs hown S m d news hl hnews h1 hbytes h63 hB
  unfold Oper.wp execOp
  simp only [ho, resolve, invoke, builtin, Sem.run_bind, Sem.run_pure, Result.andThen_ok, List.map_toArray, List.map_cons, List.map_nil, hs, hx, hr]
  exact hK _ _ (h A' c' w' h2 h3)

theorem wpList_append_string {ops : Array Oper} {rest : List Oper} {o : Oper} {a : Act} {Q : Exit → Act → World → Prop} (hgd : o.guard = none) (sl x : Operand) (t u : TypeId)
    (ho : o.op = .call { callee := .builtin .append, args := #[sl, x], argTypes := #[t, u] })
    (B : Nat) (e : TypeId) (i : TypeInfo) (ht : P.underlying t = some (.slice e)) (hu : P.underlying u = some .string) (hi : P.info? e = some i) (hz : i.zero = some (.int .u8 0)) (hsize : i.size = 1) (hby : i.bytes = 1)
    (A : Option Addr) (n c : Nat) (xs : List Value) (hs : a.eval sl = .slice A n c) (hown : Own w B e 1 A n c xs) (s : ByteArray) (hx : a.eval x = .string s)
    (hbytes : n + s.size ≤ 140737488355328) (hB : B ≤ w.heap.size)
    (h : ∀ A' c' w', Own w' B e 1 A' (n + s.size) c' (xs ++ s.data.toList.map bv) → AppK w w' A A' xs → wpList P ops Q rest (a.put o.dst (.slice A' (n + s.size) c')) w') : wpList P ops Q (o :: rest) a w := by
  refine wpList_plain hgd fun K hK => ?_
  obtain ⟨A', c', w', hr, h2, h3⟩ := run_append_string (P := P) w B t u o.type e i ht hu hi hz hsize hby A n c xs hown s hbytes hB
  unfold Oper.wp execOp
  simp only [ho, resolve, invoke, builtin, Sem.run_bind, Sem.run_pure, Result.andThen_ok, List.map_toArray, List.map_cons, List.map_nil, hs, hx, hr]
  exact hK _ _ (h A' c' w' h2 h3)
end

/-! ### Appended to again and again -/
/-- In the world w the slice A read xs; now, in w', A' owns xs'; A reads as it did; of w's blocks A's alone may have turned. -/
structure AppTo (w : World) (B : Nat) (e : TypeId) (k : Nat) (A : Option Addr) (xs : List Value) (w' : World) (A' : Option Addr) (n' c' : Nat) (xs' : List Value) : Prop where
  own : Own w' B e k A' n' c' xs'
  grown : w.grownBy w' (blkOf A)
  rd : Rd w' A xs
  at_ : (A' = A ∧ xs <+: xs') ∨ ∀ g, blkOf A' = some g → w.heap.size ≤ g
  base : B ≤ w.heap.size
  lt : ∀ g, blkOf A = some g → g < w.heap.size
  keep : RowKeep w w' A xs
section
variable {w w' w'' : World} {B : Nat} {e : TypeId} {k : Nat} {A A' A'' : Option Addr} {n c n' c' n'' c'' : Nat} {xs xs' xs'' news : List Value}
theorem AppTo.refl (h : Own w B e k A n c xs) (hB : B ≤ w.heap.size) : AppTo w B e k A xs w A n c xs := ⟨h, only_refl _ _, h.rd, .inl ⟨rfl, List.prefix_refl _⟩, hB, fun g hg => (h.blk g hg).2, RowKeep.gr (Gr.rfl' _)⟩
theorem AppTo.gr (h : AppTo w B e k A xs w' A' n' c' xs') (hg : Gr w' w'') : AppTo w B e k A xs w'' A' n' c' xs' :=
  ⟨h.own.gr hg, only_trans h.grown (only_of_gr hg _), h.rd.gr hg, h.at_, h.base, h.lt, fun g e rest hA hr => by
    obtain ⟨r, h1, h2⟩ := h.keep g e rest hA hr
    exact ⟨r, h1.gr hg, h2⟩⟩
theorem AppTo.size (h : AppTo w B e k A xs w' A' n' c' xs') : w.heap.size ≤ w'.heap.size := h.grown.size
theorem AppTo.step (h : AppTo w B e k A xs w' A' n' c' xs') (ho : Own w'' B e k A'' n'' c'' (xs' ++ news)) (hk : AppK w' w'' A' A'' xs') : AppTo w B e k A xs w'' A'' n'' c'' (xs' ++ news) := by
  have hs := h.grown.size
  refine ⟨ho, ?_, ?_, ?_, h.base, h.lt, ?_⟩
  · have hg := hk.grown
    refine ⟨hg.os.trans h.grown.os, hg.tape.trans h.grown.tape, hg.output.trans h.grown.output, Nat.le_trans hs hg.size, fun i hi hne => ?_⟩
    rw [hg.block i (Nat.lt_of_lt_of_le hi hs) ?_, h.grown.block i hi hne]
    rcases h.at_ with ⟨rfl, _⟩ | hn
    · exact hne
    · intro e
      have := hn i e.symm
      omega
  · rcases h.at_ with ⟨rfl, hp⟩ | hn
    · obtain ⟨r, rfl⟩ := hp
      intro j u hu
      have hl := (List.getElem?_eq_some_iff.1 hu).1
      exact hk.1 j u (by rw [List.getElem?_append_left hl]; exact hu)
    · intro j u hu
      obtain ⟨ad, rfl, hc⟩ := h.rd j u hu
      refine ⟨ad, rfl, ?_⟩
      rcases hk.2.1 with ⟨e1, hg⟩ | ⟨e1, hg⟩
      · refine hg.cell hc ?_
        intro e2
        have h3 := hn _ e2.symm
        rw [block_of_add] at h3
        have h4 := h.lt _ rfl
        omega
      · exact hg.cell hc
  · rcases hk.2.1 with ⟨e1, hg⟩ | ⟨e1, hg⟩
    · subst e1
      rcases h.at_ with ⟨e2, hp⟩ | hn
      · exact .inl ⟨e2, hp.trans (List.prefix_append _ _)⟩
      · exact .inr hn
    · refine .inr fun g hgb => ?_
      subst e1
      injection hgb with hgb
      subst hgb
      exact hs
  · intro g e2 rest hA hr
    obtain ⟨r, h1, h2⟩ := h.keep g e2 rest hA hr
    rcases h.at_ with ⟨rfl, hp⟩ | hn
    · obtain ⟨t, rfl⟩ := hp
      rcases h.own.2 with ⟨e3, _⟩ | ⟨g', r', e3, _, hr', _⟩
      · rw [e3] at hA; cases hA
      · rw [e3] at hA
        injection hA with hA
        injection hA with hA
        subst hA
        obtain ⟨rfl, hre⟩ := row_same hr' h1
        obtain ⟨r2, h3, h4⟩ := hk.2.2 _ _ r' e3 hr'
        refine ⟨t ++ r2, by rw [← List.append_assoc]; exact h3, ?_⟩
        have := congrArg List.length hre
        simp only [List.length_append] at this ⊢
        omega
    · refine ⟨r, ?_, h2⟩
      have hlt := h.lt g (by rw [hA]; rfl)
      exact (hk.grown.block g h1.lt (fun e4 => by have := hn g e4.symm; omega)).trans h1
end

/-- One element, laid in a block of its own: it reads. -/
theorem Rd.one_new (w : World) (x : Value) (t : TypeId) : Rd (w.alloc (.cells #[x] t)) (some ⟨w.heap.size, 0, none⟩) [x] := Rd.of_row' (t := t) (Row.new w t [x])
theorem Rd.new (w : World) (xs : List Value) (t : TypeId) : Rd (w.alloc (.cells xs.toArray t)) (some ⟨w.heap.size, 0, none⟩) xs := Rd.of_row' (t := t) (Row.new w t xs)
end Go.Proofs.Ytopellbmmkflgaa
