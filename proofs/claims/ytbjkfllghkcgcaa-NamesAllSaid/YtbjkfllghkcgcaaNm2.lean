/- Package names: Has, Not, None. -/
import Derived.Test.YtbjkfllghkcgcaaNm1
import Derived.Test.YtbjkfllghkcgcaaVc2
set_option linter.unusedVariables false
set_option linter.unusedSimpArgs false
namespace Go.Proofs.Ytbjkfllghkcgcaa
open Go.RowKit Go.Sort

attribute [local go_sem] Vc.known_tmp Vc.known_const Vc.known_func Vc.known_global Vc.lk Vc.okUpon Vc.Fact.holds

/-- A set of names in a value: all but those, or those. -/
def NmB (w : World) (b : Bool) (L : List Str) (e : Ending) (w' : World) : Prop :=
  ∃ A n c, e = .returned (.agg #[.bool b, .slice A n c]) ∧ Hid (L.length = n) ∧ Rd w' A (L.map encStr) ∧ n ≤ c ∧ c ≤ maxLen ∧ Gr w w'

theorem string_mem {L : List Str} {s : ByteArray} : s ∈ L.map ba ↔ s.data.toList ∈ L := by
  constructor
  · intro h
    obtain ⟨l, hl, rfl⟩ := List.mem_map.1 h
    exact hl
  · intro h
    exact List.mem_map.2 ⟨_, h, rfl⟩

/-- slices.Contains at []string. -/
theorem contains_any (A : Option Addr) (n c : Nat) (L : List Str) (s : ByteArray) (w : World) (hn : Hid (L.length = n)) (hr : Rd w A (L.map encStr)) (hl : n ≤ 1000000) :
    Calls Try.prog 34 #[.slice A n c, .string s] w fun e w' => e = .returned (.bool (decide (s.data.toList ∈ L))) ∧ w = w' := by
  have hn' := hn.out
  by_cases h0 : 0 < n
  · obtain ⟨b, off, e, hc⟩ := hr.plain (by omega)
    subst e
    have hc' : ∀ j, j < (L.map ba).length → w.cell? ⟨b, off + j, none⟩ = some (.string ((L.map ba).getD j ByteArray.empty)) := by
      intro j hj
      rw [List.length_map] at hj
      rw [hc j hj, getD_ba hj]
      rfl
    refine (Try.slices_Contains_string b off n c (L.map ba) s w (by simp; omega) (by omega) hc').mono fun e w' ⟨he, hw⟩ => ⟨?_, hw.symm⟩
    rw [he, List.take_of_length_le (by simp; omega)]
    congr 2
    have h1 := Lib.containsS_iff (L.map ba) s
    by_cases hm : s.data.toList ∈ L
    · rw [decide_eq_true hm]
      exact h1.2 (string_mem.2 hm)
    · rw [decide_eq_false hm]
      cases hb : Lib.containsS (L.map ba) s with
      | false => rfl
      | true => exact absurd (string_mem.1 (h1.1 hb)) hm
  · obtain rfl : n = 0 := by omega
    have : L = [] := List.eq_nil_of_length_eq_zero hn'
    subst this
    exact (Try.slices_Contains_string_empty A c s w).mono fun e w' ⟨he, hw⟩ => ⟨by rw [he]; rfl, hw.symm⟩

theorem has_any (b : Bool) (A : Option Addr) (n c : Nat) (L : List Str) (s : ByteArray) (w : World) (hn : Hid (L.length = n)) (hr : Rd w A (L.map encStr)) (hl : n ≤ 1000000) :
    Calls Try.prog 15 #[.agg #[.bool b, .slice A n c], .string s] w fun e w' => e = .returned (.bool (decide (s.data.toList ∈ L) != b)) ∧ Gr w w' := by
  have HC := Lib.hid (fun W h => contains_any A n c L s W hn h hl)
  go_enter Try.func15, Try.ntmps15
  go_wp2_with fail
  have hrow := Row.new w 25 [.bool b, .slice A n c]
  have hg1 := Gr.alloc1 w (.cells #[.bool b, .slice A n c] 25)
  generalize w.alloc (.cells #[.bool b, .slice A n c] 25) = w1 at *
  have hc0 : w1.cell? ⟨w.heap.size, 0, none⟩ = some (.bool b) := hrow.cell 0
  have hc1 : w1.cell? ⟨w.heap.size, 1, none⟩ = some (.slice A n c) := hrow.cell 1
  have hd := hr.gr (hg1.trans' (Gr.draw _))
  clear hrow
  refine Vc.wp_region_facts ⟨fun W W' => W = W', fun _ W W' => W = W', fun _ W => W = w1.drew, []⟩ (by kernel_rfl) (by kernel_rfl) (fun _ _ _ h h' => h ▸ h') rfl ?_
  repeat
    refine Vc.Walk.pure (v := ?_) (fun _ => rfl) rfl (by first | exact Vc.GuardYes.no rfl | exact Vc.GuardYes.yes rfl rfl) rfl rfl ?_ ?_
    rotate_left
    · intro _ W hI
      (obtain rfl := hI.g)
      go_simp
      exact rfl
  refine Vc.Walk.call (.is (.bool (decide (s.data.toList ∈ L)))) trivial (.no rfl) rfl rfl ?_ ?_
  · intro k W hI
    obtain rfl := hI.g
    clear hI
    go_simp
    refine (HC.out _ hd).mono ?_
    rintro e W' ⟨rfl, rfl⟩
    exact ⟨_, rfl, rfl, rfl⟩
  repeat
    refine Vc.Walk.pure (v := ?_) (fun _ => rfl) rfl (by first | exact Vc.GuardYes.no rfl | exact Vc.GuardYes.yes rfl rfl) rfl rfl ?_ ?_
    rotate_left
    · intro _ W hI
      (obtain rfl := hI.g)
      go_simp
      exact rfl
  rintro W rfl
  simp only [List.reverse_cons, List.reverse_nil, List.nil_append, List.cons_append, Vc.finish, Act.put, List.setIfInBounds_toArray, List.set_cons_zero, List.set_cons_succ]
  go_wp2_with fail
  go_ret
  exact ⟨rfl, hg1.trans' (Gr.draw _)⟩

/-- What holds none of the values is not where they lie. -/
theorem Rd.keepAny {w w' : World} {A : Option Addr} {xs : List Value} {g : Nat} {t : TypeId} {cs : List Value} (h : Rd w A xs) (hr : Row w g t cs) (hcs : ∀ u ∈ xs, u ∉ cs)
    (hg : w.grownBy w' (some g)) : Rd w' A xs := fun j u hu => by
  obtain ⟨ad, rfl, hc⟩ := h j u hu
  refine ⟨ad, rfl, ?_⟩
  refine hg.cell hc fun e => ?_
  injection e with e
  have hc' := hc
  unfold World.cell? at hc'
  rw [e] at hc'
  unfold Row at hr
  rw [hr] at hc'
  simp only [] at hc'
  split at hc'
  · cases hc'
  · exact hcs u (List.mem_of_getElem? hu) (List.mem_of_getElem? (by simpa using hc' : cs[(ad.add j).off]? = some u))
theorem Rd.keepStr {w w' : World} {A : Option Addr} {L : List Str} {g : Nat} {t : TypeId} {cs : List Value} (h : Rd w A (L.map encStr)) (hr : Row w g t cs) (hcs : ∀ s, Value.string s ∉ cs)
    (hg : w.grownBy w' (some g)) : Rd w' A (L.map encStr) :=
  h.keepAny hr (fun u hu => by obtain ⟨l, _, rfl⟩ := List.mem_map.1 hu; exact hcs _) hg

/-- A set in a value, in a world. -/
def SetV (L : List Str) (v : Value) (w : World) : Prop := ∃ A n c, v = .agg #[.slice A n c] ∧ Hid (L.length = n) ∧ Rd w A (L.map encStr) ∧ n ≤ c ∧ c ≤ maxLen
def SlV (L : List Str) (v : Value) (w : World) : Prop := ∃ A n c, v = .slice A n c ∧ Hid (L.length = n) ∧ Rd w A (L.map encStr) ∧ n ≤ c ∧ c ≤ maxLen
def NmV (b : Bool) (L : List Str) (v : Value) (w : World) : Prop := ∃ A n c, v = .agg #[.bool b, .slice A n c] ∧ Hid (L.length = n) ∧ Rd w A (L.map encStr) ∧ n ≤ c ∧ c ≤ maxLen
theorem SetV.gr {L : List Str} {v : Value} {w w' : World} (hg : Gr w w') (h : SetV L v w) : SetV L v w' := by
  obtain ⟨A, n, c, e, hn, hr, h⟩ := h
  exact ⟨A, n, c, e, hn, hr.gr hg, h⟩
theorem SlV.gr {L : List Str} {v : Value} {w w' : World} (hg : Gr w w') (h : SlV L v w) : SlV L v w' := by
  obtain ⟨A, n, c, e, hn, hr, h⟩ := h
  exact ⟨A, n, c, e, hn, hr.gr hg, h⟩
theorem NmV.gr {b : Bool} {L : List Str} {v : Value} {w w' : World} (hg : Gr w w') (h : NmV b L v w) : NmV b L v w' := by
  obtain ⟨A, n, c, e, hn, hr, h⟩ := h
  exact ⟨A, n, c, e, hn, hr.gr hg, h⟩
theorem st_gr {Φ : Vc.Frames} {F : Value → World → Prop} (hL : ∀ w w', Φ.Le w w' → Gr w w') (hC : ∀ k w w', Φ.LeC k w w' → Gr w w') (h : ∀ {v w w'}, Gr w w' → F v w → F v w') : (Vc.Fact.fits (Vc.All F)).stable Φ :=
  Vc.All.stable (fun _ _ _ hl hf => h (hL _ _ hl) hf) (fun _ _ _ _ _ hl hf => h (hC _ _ _ hl) hf)

theorem new1 (w : World) (t1 : TypeId) (xs : List Value) : Row (w.alloc (.cells xs.toArray t1)) w.heap.size t1 xs ∧ Gr w (w.alloc (.cells xs.toArray t1)) := ⟨Row.new _ _ _, Gr.alloc1 _ _⟩
theorem new2 (w : World) (t1 t2 : TypeId) (xs ys : List Value) : Row ((w.alloc (.cells xs.toArray t1)).alloc (.cells ys.toArray t2)) w.heap.size t1 xs ∧ Row ((w.alloc (.cells xs.toArray t1)).alloc (.cells ys.toArray t2)) (w.heap.size + 1) t2 ys ∧ Gr w ((w.alloc (.cells xs.toArray t1)).alloc (.cells ys.toArray t2)) :=
  ⟨(Row.new _ _ _).alloc _, by have := Row.new (w.alloc (.cells xs.toArray t1)) t2 ys; simpa using this, (Gr.alloc1 _ _).trans' (Gr.alloc1 _ _)⟩
theorem new3 (w : World) (t1 t2 t3 : TypeId) (xs ys zs : List Value) : let W := ((w.alloc (.cells xs.toArray t1)).alloc (.cells ys.toArray t2)).alloc (.cells zs.toArray t3)
    Row W w.heap.size t1 xs ∧ Row W (w.heap.size + 1) t2 ys ∧ Row W (w.heap.size + 1 + 1) t3 zs ∧ Gr w W :=
  ⟨(new2 w t1 t2 xs ys).1.alloc _, (new2 w t1 t2 xs ys).2.1.alloc _, by have := Row.new ((w.alloc (.cells xs.toArray t1)).alloc (.cells ys.toArray t2)) t3 zs; simpa using this, (new2 w t1 t2 xs ys).2.2.trans' (Gr.alloc1 _ _)⟩

theorem info_str : (Try.prog.info? 9).map (fun i => (i.zero, i.size, i.bytes)) = some (some (.string ByteArray.empty), 1, 16) := by kernel_rfl
/-- The result's two cells are written. -/
theorem res2 {w0 W : World} {g : Nat} {t : TypeId} {x y : Value} (hr : Row W g t [x, y]) (hg : Gr w0 W) (hlt : w0.heap.size ≤ g) (u v : Value) :
    Row ((W.setCell ⟨g, 0, none⟩ u).setCell ⟨g, 1, none⟩ v) g t [u, v] ∧ W.grownBy ((W.setCell ⟨g, 0, none⟩ u).setCell ⟨g, 1, none⟩ v) (some g) ∧ Gr w0 ((W.setCell ⟨g, 0, none⟩ u).setCell ⟨g, 1, none⟩ v) := by
  have h1 := (hr.set 0 u).set 1 v
  have h2 := only_trans (only_set W g 0 u) (only_set _ g 1 v)
  exact ⟨h1, h2, Below.grown hg h2 hg.size (fun k hk => by cases hk; exact hlt)⟩

theorem res1 {w0 W : World} {g : Nat} {t : TypeId} {x : Value} (hr : Row W g t [x]) (hg : Gr w0 W) (hlt : w0.heap.size ≤ g) (u : Value) :
    Row (W.setCell ⟨g, 0, none⟩ u) g t [u] ∧ W.grownBy (W.setCell ⟨g, 0, none⟩ u) (some g) ∧ Gr w0 (W.setCell ⟨g, 0, none⟩ u) :=
  ⟨hr.set 0 u, only_set W g 0 u, Below.grown hg (only_set W g 0 u) hg.size (fun k hk => by cases hk; exact hlt)⟩

set_option maxHeartbeats 2000000 in
theorem not_any (b : Bool) (A : Option Addr) (n c : Nat) (L : List Str) (w : World) (hn : Hid (L.length = n)) (hr : Rd w A (L.map encStr)) (hl : n ≤ 1000000) :
    Calls Try.prog 16 #[.agg #[.bool b, .slice A n c]] w (NmB w (!b) (ofL L)) := by
  have HO := Lib.hid (fun W h => of_any A n c L W hn h hl)
  go_enter Try.func16, Try.ntmps16
  go_wp2_with fail
  obtain ⟨hrow, hres, hg1⟩ := new2 w 25 25 [.bool b, .slice A n c] [.bool false, .slice none 0 0]
  generalize (w.alloc (.cells #[.bool b, .slice A n c] 25)).alloc (.cells #[.bool false, .slice none 0 0] 25) = w1 at *
  have hc0 := Lib.hid (show w1.cell? ⟨w.heap.size, 0, none⟩ = some (.bool b) from hrow.cell 0)
  have hc1 := Lib.hid (show w1.cell? ⟨w.heap.size, 1, none⟩ = some (.slice A n c) from hrow.cell 1)
  have hd := hr.gr hg1
  refine Vc.wp_region_split ⟨Gr, fun _ => Gr, fun _ W => Gr w1 W, []⟩ 8 [] (by kernel_rfl) (by kernel_rfl) (by kernel_rfl) (by decide) (by simp) (by simp) (by simp) (fun _ _ h => h.size) (fun _ _ _ h => h.size) (fun _ _ _ h h' => h'.trans' h) (Gr.draw _) ?_
  repeat
    refine Vc.Walk.pure (v := ?_) (fun _ => Gr.rfl' _) rfl (by first | exact Vc.GuardYes.no rfl | exact Vc.GuardYes.yes rfl rfl) rfl rfl ?_ ?_
    rotate_left
    · intro _ W hI
      (have hx := hI.g.cell hc0.out; have hy := hI.g.cell hc1.out; clear hI)
      go_simp
      exact rfl
  refine Vc.Walk.call (.fits (Vc.All (SetV (ofL L)))) (st_gr (fun _ _ h => h) (fun _ _ _ h => h) SetV.gr) (.no rfl) rfl rfl ?_ ?_
  · intro k W hI
    have hg := hI.g
    clear hI
    go_simp
    refine (HO.out _ (hd.gr hg)).mono ?_
    rintro e W' ⟨A', n', c', rfl, hn', hr', h1, h2, hg'⟩
    exact ⟨_, rfl, ⟨_, _, _, rfl, hn', hr', h1, h2⟩, hg'⟩
  refine Vc.Walk.any (.fits (Vc.All (SlV (ofL L)))) (st_gr (fun _ _ h => h) (fun _ _ _ h => h) SlV.gr) (.no rfl) ?_ ?_
  · intro ρ k W hI hf
    obtain ⟨⟨A', n', c', hρ, hh⟩, _⟩ := hf
    have hh := Lib.hid hh
    clear hI
    go_simp
    exact ⟨⟨_, _, _, rfl, hh.out⟩, Gr.rfl' _⟩
  refine Vc.Walk.any (.fits (Vc.All (NmV (!b) (ofL L)))) (st_gr (fun _ _ h => h) (fun _ _ _ h => h) NmV.gr) (.no rfl) ?_ ?_
  · intro ρ k W hI hf
    obtain ⟨hρ0, ⟨A', n', c', hρ, hh⟩, _⟩ := hf
    have e0 : ρ (.tmp 5) = .bool (!b) := hρ0
    have hh := Lib.hid hh
    clear hI hρ0
    go_simp
    exact ⟨⟨_, _, _, rfl, hh.out⟩, Gr.rfl' _⟩
  intro W hW
  have hW : Gr w1 W := hW
  simp only [List.reverse_cons, List.reverse_nil, List.nil_append, List.cons_append, Vc.finish, Act.put, List.setIfInBounds_toArray, List.set_cons_zero, List.set_cons_succ]
  rintro u8 _ u9 _ u10 ⟨A', n', c', rfl, hn', hr', h1, h2⟩ _
  have hrow := hres.gr hW
  have hq0 : W.cell? ⟨w.heap.size + 1, 0, none⟩ = some (.bool false) := hrow.cell 0
  have hq1 : W.cell? ⟨w.heap.size + 1, 1, none⟩ = some (.slice none 0 0) := hrow.cell 1
  have hf0 : W.frozen? ⟨w.heap.size + 1, 0, none⟩ = false := hrow.frozen 0
  have hf1 : W.frozen? ⟨w.heap.size + 1, 1, none⟩ = false := hrow.frozen 1
  simp only [List.drop_succ_cons, List.drop_zero]
  go_wp2_with fail
  obtain ⟨hR, ho, hG⟩ := res2 hrow (hg1.trans' hW) (by omega) (.bool !b) (.slice A' n' c')
  have hs0 := hR.cell 0
  have hs1 := hR.cell 1
  simp only [List.getElem?_cons_zero, List.getElem?_cons_succ] at hs0 hs1
  (try simp only [Exit.inBlock, Exit.then])
  refine bodyPost_ret (v := ?_) ?_ rfl ?_
  rotate_left
  · simp [results, Try.results16, go_sem, hs0, hs1]
    (try rfl)
  exact ⟨A', n', c', rfl, hn', hr'.keepStr hrow (by simp) ho, h1, h2, hG⟩
end Go.Proofs.Ytbjkfllghkcgcaa
