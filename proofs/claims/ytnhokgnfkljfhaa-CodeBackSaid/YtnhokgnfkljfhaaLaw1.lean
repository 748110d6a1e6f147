/- Package cadencelaw1: readers side by side. -/
import Derived.Test.YtnhokgnfkljfhaaLaw0
import Derived.Test.YtnhokgnfkljfhaaOpen
set_option linter.unusedVariables false
set_option linter.unusedSimpArgs false
namespace Go.Proofs.Ytnhokgnfkljfhaa
open Go.RowKit

theorem Gr.only {w w1 w2 : World} {g : Nat} (h : Gr w w1) (ho : w1.grownBy w2 (some g)) (hg : w.heap.size ≤ g) : Gr w w2 :=
  Below.grown h ho h.size (fun k hk => by cases hk; exact hg)
theorem RdrAt.gr {w w' : World} {g : Nat} {s : Rs} (h : RdrAt w g s) (hg : Gr w w') : RdrAt w' g s := by
  obtain ⟨A, c, hr, hd, h1, h2⟩ := h
  exact ⟨A, c, hr.gr hg, hd.gr hg, h1, h2⟩
theorem RdrAt.lt {w : World} {g : Nat} {s : Rs} (h : RdrAt w g s) : g < w.heap.size := by
  obtain ⟨A, c, hr, hd, h1, h2⟩ := h
  exact hr.lt
theorem RdrAt.keep {w w' : World} {g gx : Nat} {s sx : Rs} (h : RdrAt w g s) (hx : RdrAt w gx sx) (ho : w.grownBy w' (some gx)) (hne : g ≠ gx) : RdrAt w' g s := by
  obtain ⟨A, c, hr, hd, h1, h2⟩ := h
  obtain ⟨A', c', hr', hd', h1', h2'⟩ := hx
  exact ⟨A, c, (ho.block g hr.lt (fun e => hne (Option.some.inj e))).trans hr, hd.keep hr' (rdr_cells _ _ _ _) ho, h1, h2⟩

theorem emod_bounds (a : Int) {n : Int} (hn : 0 < n) : 0 ≤ a % n ∧ a % n < n := ⟨Int.emod_nonneg a (by omega), Int.emod_lt_of_pos a hn⟩

theorem takeS_bad (bs : List UInt8) {e : Int} (he : e ≠ 0) (k : Nat) : takeS (bs, e) k = ([], (bs, e)) := takeS_err he
theorem intS_bad (bs : List UInt8) {e : Int} (he : e ≠ 0) : intS (bs, e) = (0, (bs, e)) := by simp [intS, takeS_err he, num, wrap64]
theorem byteS_bad (bs : List UInt8) {e : Int} (he : e ≠ 0) : byteS (bs, e) = (0, (bs, e)) := by simp [byteS, takeS_err he, num]
theorem textS_bad (bs : List UInt8) {e : Int} (he : e ≠ 0) : textS (bs, e) = ([], (bs, e)) := by simp [textS, takeS_err he]
theorem failS_bad (bs : List UInt8) {e : Int} (he : e ≠ 0) (k : Int) : failS (bs, e) k = (bs, e) := by simp [failS, he]
theorem failS_ok (bs : List UInt8) (k : Int) : failS (bs, 0) k = (bs, k) := by simp [failS]
theorem endS_bad (bs : List UInt8) {e : Int} (he : e ≠ 0) : endS (bs, e) = e := by simp [endS, he]
theorem endS_nil : endS ([], 0) = 0 := by simp [endS]
theorem endS_more {bs : List UInt8} (h : 0 < bs.length) : endS (bs, 0) = 9 := by simp [endS, h]
theorem intS_cut {bs : List UInt8} (h : bs.length < 8) : intS (bs, 0) = (0, (bs, 8)) := by
  simp [intS, takeS_more (show ¬ 8 ≤ bs.length by omega), num, wrap64]

theorem rInt_to {s : Rs} {n : Int} {s' : Rs} (h : intS s = (n, s')) (g : Nat) (w : World) (hs : RdrAt w g s) :
    Calls Try.prog 22 #[.pointer (some ⟨g, 0, none⟩)] w fun e w' => e = .returned (.int .i64 n) ∧ RdrAt w' g s' ∧ w.grownBy w' (some g) := by
  have H := rInt_any g s w hs
  rw [h] at H
  exact H
theorem rByte_to {s : Rs} {n : Int} {s' : Rs} (h : byteS s = (n, s')) (g : Nat) (w : World) (hs : RdrAt w g s) :
    Calls Try.prog 23 #[.pointer (some ⟨g, 0, none⟩)] w fun e w' => e = .returned (.int .i64 n) ∧ RdrAt w' g s' ∧ w.grownBy w' (some g) := by
  have H := rByte_any g s w hs
  rw [h] at H
  exact H
theorem rText_to {s : Rs} {t : List UInt8} {s' : Rs} (h : textS s = (t, s')) (g : Nat) (w : World) (hs : RdrAt w g s) :
    Calls Try.prog 20 #[.pointer (some ⟨g, 0, none⟩)] w fun e w' => e = .returned (.string ⟨t.toArray⟩) ∧ RdrAt w' g s' ∧ w.grownBy w' (some g) := by
  have H := rText_any g s w hs
  rw [h] at H
  exact H
theorem rEnd_to {s : Rs} {n : Int} (h : endS s = n) (g : Nat) (w : World) (hs : RdrAt w g s) :
    Calls Try.prog 21 #[.pointer (some ⟨g, 0, none⟩)] w fun e w' => e = .returned (.int .i64 n) ∧ w = w' := by
  have H := rEnd_any g s w hs
  rw [h] at H
  exact H
theorem rFail_to {s : Rs} {k : Int} {s' : Rs} (h : failS s k = s') (g : Nat) (w : World) (hs : RdrAt w g s) :
    Calls Try.prog 28 #[.pointer (some ⟨g, 0, none⟩), .int .i64 k] w fun e w' => e = .returned (.tuple #[]) ∧ RdrAt w' g s' ∧ w.grownBy w' (some g) := by
  have H := rFail_any g s k w hs
  rw [h] at H
  exact H
theorem new_to {n : Nat} {bs : List UInt8} (hn : bs.length = n) (A : Option Addr) (c : Nat) (w : World) (hx : Rd w A (bs.map bv)) (hl : n ≤ 1000000) :
    Calls Try.prog 19 #[.slice A n c] w fun e w' => ∃ g, e = .returned (.pointer (some ⟨g, 0, none⟩)) ∧ w.heap.size ≤ g ∧ RdrAt w' g (bs, 0) ∧ Gr w w' := by
  subst hn
  exact new_any A c bs w hx (by omega)
end Go.Proofs.Ytnhokgnfkljfhaa
