/- The document's files (package cadenceref15): the same lists in order, the same state; where they lie. -/
import Derived.Test.YtopellbmmkflgaaVfC6
set_option linter.unusedVariables false
set_option linter.unusedSimpArgs false
namespace Go.Proofs.Ytopellbmmkflgaa
open Go.RowKit Go.Maps Go.Sort

/-! ### with: a change is done to files in order -/
theorem insBy_front {α : Type} {key : α → Str} {x : α} : ∀ {l : List α}, (∀ y ∈ l, bytesBefore (key x) (key y) = true) → insBy key x l = x :: l
  | [], _ => rfl
  | y :: r, h => by simp [insBy, h y (by simp)]
theorem bb_asymm {a b : Str} (h : bytesBefore a b = true) : bytesBefore b a = false := by
  cases h2 : bytesBefore b a with
  | false => rfl
  | true => exact absurd (bb_trans h h2) (by simp [bb_irrefl])
def withK (l : Files) (n : Str) (k : Nat) : Nat := if k < l.length ∧ (l[k]?.map (·.1)) = some n then k + 1 else k
theorem act_split {c : Ch} : ∀ {l : Files} {k : Nat}, l.Rising → k ≤ l.length → (∀ j (h : j < l.length), j < k → bytesBefore l[j].1 c.name = true) → (∀ h : k < l.length, bytesBefore l[k].1 c.name = false) →
    c.act l = l.take k ++ (if c.gone then [] else [(c.name, c.b)]) ++ l.drop (withK l c.name k)
  | [], k, _, hk, _, _ => by
    simp at hk
    subst hk
    unfold Ch.act Files.del Files.put insBy
    cases c.gone <;> simp
  | x :: r, 0, hR, hk, _, h2 => by
    obtain ⟨h3, h4⟩ := List.pairwise_cons.1 hR
    have hx : bytesBefore x.1 c.name = false := h2 (by simp)
    by_cases he : x.1 = c.name
    · have hall : ∀ p ∈ r, bytesBefore c.name p.1 = true := fun p hp => he ▸ h3 p hp
      have hf : (x :: r).filter (fun p => !(p.1 == c.name)) = r := by
        rw [List.filter_cons]
        simp only [he, beq_self_eq_true, Bool.not_true, Bool.false_eq_true, if_false]
        refine List.filter_eq_self.2 fun p hp => ?_
        have h5 := hall p hp
        have : p.1 ≠ c.name := fun e => by rw [e, bb_irrefl] at h5; cases h5
        simpa using this
      have hw : withK (x :: r) c.name 0 = 1 := by simp [withK, he]
      rw [hw]
      unfold Ch.act Files.del Files.put
      rw [hf]
      cases c.gone with
      | true => simp
      | false => simp [insBy_front (key := fun p : Str × Str => p.1) (x := (c.name, c.b)) hall]
    · have hb : bytesBefore c.name x.1 = true := by
        rcases bb_total he with h | h
        · rw [hx] at h; cases h
        · exact h
      have hall : ∀ p ∈ x :: r, bytesBefore c.name p.1 = true := fun p hp => by
        rcases List.mem_cons.1 hp with rfl | hp
        · exact hb
        · exact bb_trans hb (h3 p hp)
      have hf : (x :: r).filter (fun p => !(p.1 == c.name)) = x :: r := by
        refine List.filter_eq_self.2 fun p hp => ?_
        have h5 := hall p hp
        have : p.1 ≠ c.name := fun e => by rw [e, bb_irrefl] at h5; cases h5
        simpa using this
      have hw : withK (x :: r) c.name 0 = 0 := by simp [withK, he]
      rw [hw]
      unfold Ch.act Files.del Files.put
      rw [hf]
      cases c.gone with
      | true => simp
      | false => simp [insBy_front (key := fun p : Str × Str => p.1) (x := (c.name, c.b)) hall]
  | x :: r, k + 1, hR, hk, h1, h2 => by
    obtain ⟨h3, h4⟩ := List.pairwise_cons.1 hR
    have hx : bytesBefore x.1 c.name = true := h1 0 (by simp) (by omega)
    have hne : x.1 ≠ c.name := fun e => by rw [e, bb_irrefl] at hx; cases hx
    have ih := act_split (c := c) (l := r) (k := k) h4 (by simpa using hk) (fun j h hj => h1 (j + 1) (Nat.succ_lt_succ h) (by omega)) (fun h => h2 (Nat.succ_lt_succ h))
    have hw : withK (x :: r) c.name (k + 1) = withK r c.name k + 1 := by
      unfold withK
      simp only [List.length_cons, Nat.add_lt_add_iff_right, List.getElem?_cons_succ]
      split <;> rfl
    have ha : c.act (x :: r) = x :: c.act r := by
      have e' : (x.1 == c.name) = false := by simpa using hne
      unfold Ch.act Files.del Files.put
      cases c.gone with
      | true => simp [List.filter_cons, e']
      | false => simp [List.filter_cons, e', insBy, bb_asymm hx]
    rw [hw, ha, ih]
    simp

def actAll (l : Files) (cs : List Ch) : Files := cs.foldl (fun l c => c.act l) l
theorem actAll_take (l : Files) (cs : List Ch) {i : Nat} (h : i < cs.length) : actAll l (cs.take (i + 1)) = cs[i].act (actAll l (cs.take i)) := by
  unfold actAll
  rw [List.take_succ_eq_append_getElem h, List.foldl_append]
  rfl
theorem actAll_rising : ∀ (cs : List Ch) {l : Files}, l.Rising → (actAll l cs).Rising
  | [], _, h => h
  | c :: cs, l, h => actAll_rising cs (act_rising h c)
theorem actAll_length : ∀ (cs : List Ch) (l : Files), (actAll l cs).length ≤ l.length + cs.length
  | [], _ => Nat.le_refl _
  | c :: cs, l => by
    have h1 := actAll_length cs (c.act l)
    have h2 := act_length l c
    show (actAll (c.act l) cs).length ≤ l.length + (cs.length + 1)
    omega
theorem actAll_snoc (l : Files) (cs : List Ch) (c : Ch) : actAll l (cs ++ [c]) = c.act (actAll l cs) := by unfold actAll; rw [List.foldl_append]; rfl
/-- What is seen is what was flushed, with what was done since. -/
def Nw (s : V) : Prop := s.now = actAll s.kept s.since
theorem nw_new (r : Int) : Nw (V.new r) := rfl
theorem nw_done {s : V} (h : Nw s) (c : Ch) : Nw (s.done c) := by
  show c.act s.now = actAll s.kept (s.since ++ [c])
  rw [actAll_snoc, h]
theorem nw_write {s : V} (h : Nw s) (n b : Str) : Nw (s.write n b).1 := by
  unfold V.write
  split
  · exact h
  · split
    · exact h
    · split
      · exact h
      · exact nw_done h _
theorem nw_remove {s : V} (h : Nw s) (n : Str) : Nw (s.remove n).1 := by
  unfold V.remove
  split
  · exact h
  · split
    · exact nw_done h _
    · exact h
theorem nw_flush {s : V} (h : Nw s) : Nw s.flush.1 := by
  unfold V.flush
  split
  · exact h
  · split
    · exact h
    · rfl
theorem nw_crash (s : V) (ks : List Int) : Nw (s.crash ks) := rfl
theorem used_append (a b : Files) : Files.used (a ++ b) = Files.used a + Files.used b := by simp [Files.used]
theorem used_take_succ (l : Files) {i : Nat} (h : i < l.length) : Files.used (l.take (i + 1)) = Files.used (l.take i) + l[i].2.length := by
  rw [List.take_succ_eq_append_getElem h, used_append]
  simp [Files.used]
theorem used_take_le (l : Files) (i : Nat) : Files.used (l.take i) ≤ Files.used l := by
  have := used_append (l.take i) (l.drop i)
  rw [List.take_append_drop] at this
  omega
theorem get_at {l : Files} {i : Nat} (h : i < l.length) {n : Str} (h1 : ∀ j (h : j < l.length), j < i → l[j].1 ≠ n) (h2 : l[i].1 = n) : l.get n = some l[i].2 := by
  unfold Files.get
  rw [List.find?_eq_some_iff_getElem.2 ⟨by simpa using h2, i, h, rfl, fun j hj => by simpa using h1 j (by omega) hj⟩]
  rfl
theorem get_not {l : Files} {n : Str} (h1 : ∀ j (h : j < l.length), l[j].1 ≠ n) : l.get n = none :=
  get_none.2 fun p hp => by
    obtain ⟨i, hi, rfl⟩ := List.getElem_of_mem hp
    exact h1 i hi

/-! ### Rows of files, rows of changes -/
def fc (q : Str × Str) : List Value := [encStr q.1, encStr q.2]
def oc (c : Ch) : List Value := [encStr c.name, encStr c.b, .bool c.gone]
theorem flat_len {α : Type} {f : α → List Value} {k : Nat} (hf : ∀ x, (f x).length = k) : ∀ l : List α, (l.flatMap f).length = l.length * k
  | [] => by simp
  | x :: r => by rw [List.flatMap_cons, List.length_append, hf, flat_len hf r, List.length_cons, Nat.add_mul, Nat.one_mul, Nat.add_comm]
theorem flat_get {α : Type} {f : α → List Value} {k : Nat} (hf : ∀ x, (f x).length = k) : ∀ (l : List α) {i j : Nat}, (h : i < l.length) → j < k → (l.flatMap f)[i * k + j]? = (f l[i])[j]?
  | [], i, j, h, _ => by simp at h
  | x :: r, 0, j, h, hj => by
    rw [List.flatMap_cons, List.getElem?_append_left (by rw [hf]; omega)]
    simp
  | x :: r, i + 1, j, h, hj => by
    rw [List.flatMap_cons, List.getElem?_append_right (by rw [hf, Nat.add_mul]; omega)]
    have := flat_get hf r (i := i) (j := j) (by simpa using h) hj
    rw [hf]
    rw [show (i + 1) * k + j - k = i * k + j by rw [Nat.add_mul]; omega]
    simpa using this
theorem fc_len (q : Str × Str) : (fc q).length = 2 := rfl
theorem oc_len (c : Ch) : (oc c).length = 3 := rfl
theorem fc_one (l : Files) : ∀ u ∈ l.flatMap fc, u.oneCell' = true := by
  intro u hu
  obtain ⟨q, _, hq⟩ := List.mem_flatMap.1 hu
  simp only [fc, List.mem_cons, List.not_mem_nil, or_false] at hq
  rcases hq with rfl | rfl <;> rfl
theorem oc_one (l : List Ch) : ∀ u ∈ l.flatMap oc, u.oneCell' = true := by
  intro u hu
  obtain ⟨q, _, hq⟩ := List.mem_flatMap.1 hu
  simp only [oc, List.mem_cons, List.not_mem_nil, or_false] at hq
  rcases hq with rfl | rfl | rfl <;> rfl
theorem flat_drop {α : Type} {f : α → List Value} {k : Nat} (hf : ∀ x, (f x).length = k) (l : List α) (i : Nat) : (l.flatMap f).drop (i * k) = (l.drop i).flatMap f := by
  by_cases h : i ≤ l.length
  · conv => lhs; rw [← List.take_append_drop i l]
    rw [List.flatMap_append, List.drop_append_of_le_length (by rw [flat_len hf, List.length_take, Nat.min_eq_left h]; exact Nat.le_refl _), List.drop_of_length_le (by rw [flat_len hf, List.length_take, Nat.min_eq_left h]; exact Nat.le_refl _)]
    simp
  · rw [List.drop_of_length_le (by rw [flat_len hf]; exact Nat.mul_le_mul_right _ (by omega)), List.drop_of_length_le (by omega)]
    rfl
section
variable {w w' : World} {B : Nat} {A : Option Addr} {c : Nat}
abbrev FOwn (w : World) (B : Nat) (A : Option Addr) (n c : Nat) (l : Files) : Prop := Own w B 92 2 A n c (l.flatMap fc)
abbrev OOwn (w : World) (B : Nat) (A : Option Addr) (n c : Nat) (l : List Ch) : Prop := Own w B 88 3 A n c (l.flatMap oc)
theorem own_head {e : TypeId} {k n : Nat} {xs : List Value} (h : Own w B e k A n c xs) (h0 : 0 < xs.length) : ∃ g, A = some ⟨g, 0, none⟩ ∧ ∀ (j : Nat) (u : Value), xs[j]? = some u → w.cell? ⟨g, j, none⟩ = some u := by
  rcases h.2 with ⟨rfl, rfl, _⟩ | ⟨g, rest, rfl, hb, hr, r⟩
  · have := h.1
    omega
  · refine ⟨g, rfl, fun j u hu => ?_⟩
    rw [hr.cell, List.getElem?_append_left (List.getElem?_eq_some_iff.1 hu).1, hu]
theorem fown_at {n : Nat} {l : Files} (h : FOwn w B A n c l) {i : Nat} (hi : i < l.length) : ∃ g, A = some ⟨g, 0, none⟩ ∧ w.cell? ⟨g, i * 2, none⟩ = some (encStr l[i].1) ∧ w.cell? ⟨g, i * 2 + 1, none⟩ = some (encStr l[i].2) := by
  obtain ⟨g, rfl, hg⟩ := own_head h (by rw [flat_len fc_len]; omega)
  exact ⟨g, rfl, hg _ _ (flat_get fc_len l (j := 0) hi (by omega)), hg _ _ (flat_get fc_len l (j := 1) hi (by omega))⟩
theorem oown_at {n : Nat} {l : List Ch} (h : OOwn w B A n c l) {i : Nat} (hi : i < l.length) : ∃ g, A = some ⟨g, 0, none⟩ ∧ w.cell? ⟨g, i * 3, none⟩ = some (encStr l[i].name) ∧ w.cell? ⟨g, i * 3 + 1, none⟩ = some (encStr l[i].b) ∧ w.cell? ⟨g, i * 3 + 2, none⟩ = some (.bool l[i].gone) := by
  obtain ⟨g, rfl, hg⟩ := own_head h (by rw [flat_len oc_len]; omega)
  exact ⟨g, rfl, hg _ _ (flat_get oc_len l (j := 0) hi (by omega)), hg _ _ (flat_get oc_len l (j := 1) hi (by omega)), hg _ _ (flat_get oc_len l (j := 2) hi (by omega))⟩
theorem fown_len {n : Nat} {l : Files} (h : FOwn w B A n c l) : l.length = n := by have := h.1; rw [flat_len fc_len] at this; omega
theorem oown_len {n : Nat} {l : List Ch} (h : OOwn w B A n c l) : l.length = n := by have := h.1; rw [flat_len oc_len] at this; omega
end

/-! ### The object -/
def refCells (A1 : Option Addr) (c1 : Nat) (A2 : Option Addr) (c2 : Nat) (s : V) : List Value :=
  [.slice A1 s.kept.length c1, .slice A2 s.since.length c2, .int .i64 s.room, .int .i64 s.stop, .bool s.dead, .int .i64 s.ops]
structure RMem (w : World) (X : Nat → Prop) (p : Nat) (A1 : Option Addr) (c1 : Nat) (A2 : Option Addr) (c2 : Nat) (s : V) : Prop where
  row : Row w p 75 (refCells A1 c1 A2 c2 s)
  kept : FOwn w 0 A1 s.kept.length c1 s.kept
  since : OOwn w 0 A2 s.since.length c2 s.since
  xp : X p
  x1 : ∀ g, blkOf A1 = some g → X g
  x2 : ∀ g, blkOf A2 = some g → X g
  lt : ∀ i, X i → i < w.heap.size
def RAt (w : World) (X : Nat → Prop) (p : Nat) (s : V) : Prop := s.Ok ∧ Nw s ∧ ∃ A1 c1 A2 c2, RMem w X p A1 c1 A2 c2 s
section
variable {X X' Y : Nat → Prop} {w w' : World} {p : Nat} {A1 A2 : Option Addr} {c1 c2 : Nat} {s : V}
theorem own_tr {e : TypeId} {k B n c : Nat} {A : Option Addr} {xs : List Value} (h : Own w B e k A n c xs) (t : Tr Y w w') (hd : ∀ g, blkOf A = some g → ¬ Y g) : Own w' B e k A n c xs := by
  refine ⟨h.1, ?_⟩
  rcases h.2 with h0 | ⟨g, rest, rfl, hb, hr, r⟩
  · exact .inl h0
  · exact .inr ⟨g, rest, rfl, hb, t.row hr (hd g rfl), r⟩
theorem own_row {e : TypeId} {k B n c : Nat} {A : Option Addr} {xs : List Value} (h : Own w B e k A n c xs) {g : Nat} (hg : blkOf A = some g) : ∃ ys, Row w g e ys := by
  rcases h.2 with ⟨h0, _⟩ | ⟨g', rest, rfl, hb, hr, r⟩
  · rw [h0] at hg; cases hg
  · injection hg with hg
    have hg : g' = g := hg
    subst hg
    exact ⟨_, hr⟩
theorem RMem.frame (h : RMem w X p A1 c1 A2 c2 s) (t : Tr Y w w') (hd : ∀ i, Y i → X i → False) : RMem w' X p A1 c1 A2 c2 s :=
  ⟨t.row h.row (fun hy => hd _ hy h.xp), own_tr h.kept t (fun g hg hy => hd _ hy (h.x1 g hg)), own_tr h.since t (fun g hg hy => hd _ hy (h.x2 g hg)), h.xp, h.x1, h.x2, fun i hx => Nat.lt_of_lt_of_le (h.lt i hx) t.size⟩
theorem RAt.frame (h : RAt w X p s) (t : Tr Y w w') (hd : ∀ i, Y i → X i → False) : RAt w' X p s := by
  obtain ⟨hok, hnw, A1, c1, A2, c2, h⟩ := h
  exact ⟨hok, hnw, A1, c1, A2, c2, h.frame t hd⟩
theorem RMem.gr (h : RMem w X p A1 c1 A2 c2 s) (t : Gr w w') : RMem w' X p A1 c1 A2 c2 s := h.frame (Tr.of_gr (X := fun _ => False) t) (fun _ h _ => h)
theorem RAt.gr (h : RAt w X p s) (t : Gr w w') : RAt w' X p s := h.frame (Tr.of_gr (X := fun _ => False) t) (fun _ h _ => h)
theorem RAt.lt (h : RAt w X p s) : ∀ i, X i → i < w.heap.size := by
  obtain ⟨_, _, _, _, _, _, h⟩ := h
  exact h.lt
theorem RMem.ne1 (h : RMem w X p A1 c1 A2 c2 s) {g : Nat} (hg : blkOf A1 = some g) : p ≠ g := by
  obtain ⟨ys, hr⟩ := own_row h.kept hg
  exact h.row.ne hr (by decide)
theorem RMem.ne2 (h : RMem w X p A1 c1 A2 c2 s) {g : Nat} (hg : blkOf A2 = some g) : p ≠ g := by
  obtain ⟨ys, hr⟩ := own_row h.since hg
  exact h.row.ne hr (by decide)
theorem RMem.ne12 (h : RMem w X p A1 c1 A2 c2 s) {g g' : Nat} (hg : blkOf A1 = some g) (hg' : blkOf A2 = some g') : g ≠ g' := by
  obtain ⟨ys, hr⟩ := own_row h.kept hg
  obtain ⟨zs, hr'⟩ := own_row h.since hg'
  exact hr.ne hr' (by decide)
/-- The object's own cells have turned. -/
theorem RMem.own_cells (h : RMem w X p A1 c1 A2 c2 s) {s' : V} (hr : Row w' p 75 (refCells A1 c1 A2 c2 s')) (hg : w.grownBy w' (some p)) (h2 : s'.kept = s.kept) (h3 : s'.since = s.since) : RMem w' X p A1 c1 A2 c2 s' :=
  ⟨hr, h2 ▸ h.kept.keep hg (fun g hg2 e => by injection e with e; exact h.ne1 hg2 e), h3 ▸ h.since.keep hg (fun g hg2 e => by injection e with e; exact h.ne2 hg2 e), h.xp, h.x1, h.x2, fun i hx => Nat.lt_of_lt_of_le (h.lt i hx) hg.size⟩
theorem RMem.more (h : RMem w X p A1 c1 A2 c2 s) (hX : ∀ i, X i → X' i) (hl : ∀ i, X' i → i < w.heap.size) : RMem w X' p A1 c1 A2 c2 s :=
  ⟨h.row, h.kept, h.since, hX _ h.xp, fun g hg => hX _ (h.x1 g hg), fun g hg => hX _ (h.x2 g hg), hl⟩
/-- Other files as they were flushed. -/
theorem RMem.set_kept (h : RMem w X p A1 c1 A2 c2 s) {A : Option Addr} {n c : Nat} {l : Files} (hf : FOwn w 0 A n c l) (hx : ∀ g, blkOf A = some g → X g) :
    RMem (w.setCell ⟨p, 0, none⟩ (.slice A n c)) X p A c A2 c2 { s with kept := l } := by
  have hg := only_set w p 0 (.slice A n c)
  obtain rfl := fown_len hf
  refine ⟨h.row.set 0 _, hf.keep hg ?_, h.since.keep hg (fun g hg2 e => by injection e with e; exact h.ne2 hg2 e), h.xp, hx, h.x2, fun i hx => Nat.lt_of_lt_of_le (h.lt i hx) hg.size⟩
  intro g hg2 e
  injection e with e
  obtain ⟨ys, hr⟩ := own_row hf hg2
  exact h.row.ne hr (by decide) e
theorem RMem.set_since (h : RMem w X p A1 c1 A2 c2 s) {A : Option Addr} {n c : Nat} {l : List Ch} (hf : OOwn w 0 A n c l) (hx : ∀ g, blkOf A = some g → X g) :
    RMem (w.setCell ⟨p, 1, none⟩ (.slice A n c)) X p A1 c1 A c { s with since := l } := by
  have hg := only_set w p 1 (.slice A n c)
  obtain rfl := oown_len hf
  refine ⟨h.row.set 1 _, h.kept.keep hg (fun g hg2 e => by injection e with e; exact h.ne1 hg2 e), hf.keep hg ?_, h.xp, h.x1, hx, fun i hx => Nat.lt_of_lt_of_le (h.lt i hx) hg.size⟩
  intro g hg2 e
  injection e with e
  obtain ⟨ys, hr⟩ := own_row hf hg2
  exact h.row.ne hr (by decide) e
theorem RMem.cells (h : RMem w X p A1 c1 A2 c2 s) : w.cell? ⟨p, 0, none⟩ = some (.slice A1 s.kept.length c1) ∧ w.cell? ⟨p, 1, none⟩ = some (.slice A2 s.since.length c2) ∧
    w.cell? ⟨p, 2, none⟩ = some (.int .i64 s.room) ∧ w.cell? ⟨p, 3, none⟩ = some (.int .i64 s.stop) ∧ w.cell? ⟨p, 4, none⟩ = some (.bool s.dead) ∧ w.cell? ⟨p, 5, none⟩ = some (.int .i64 s.ops) :=
  ⟨h.row.cell 0, h.row.cell 1, h.row.cell 2, h.row.cell 3, h.row.cell 4, h.row.cell 5⟩
theorem RMem.frozen (h : RMem w X p A1 c1 A2 c2 s) (i : Nat) : w.frozen? ⟨p, i, none⟩ = false := h.row.frozen i
end
end Go.Proofs.Ytopellbmmkflgaa
