/- Package vfs: Used, Remove, Flush, Names. -/
import Derived.Test.YtopellbmmkflgaaVfC2
import Derived.Test.YtopellbmmkflgaaVfC3
set_option linter.unusedVariables false
set_option linter.unusedSimpArgs false
namespace Go.Proofs.Ytopellbmmkflgaa
open Go.RowKit Go.Maps Go.Sort
theorem key_inv {key : Value} {kl : Lit} (h : keyOf Try.prog 9 key = some kl) : ∃ n : Str, key = encStr n := by
  cases key <;> simp [keyOf, Try.underlying9, mapKey] at h
  rename_i x
  exact ⟨x.data.toList, by simp [encStr]⟩
section
variable {X : Nat → Prop} {w w' : World} {p bn bk c : Nat} {A : Option Addr} {s : V}

set_option maxHeartbeats 1000000 in
/-- (*Vfs).Used -/
theorem used_mem (h : Mem w X p bn bk A c s) (hok : s.Ok) (hs : s.now.used ≤ 4611686018427387904) :
    Calls Try.prog 14 #[.pointer (some ⟨p, 0, none⟩)] w fun e w' => e = .returned (.int .i64 (s.now.used : Nat)) ∧ Gr w w' := by
  obtain ⟨c0, c1, c2, c3, c4, c5, c6⟩ := h.cells
  have hown := h.now.owns
  have hsz := h.now.size
  generalize hD : (DataW.map ((Classical.choose h.now).map zent) : DataW Value) = D at hown hsz
  go_enter Try.func14, Try.ntmps14
  go_wp2_with (at_range; refine wpList_range_own _ rfl _ 56 rfl 9 31 keyed Try.underlying56 R1 bn s.now.length D rfl hown ?_; intro w0 hrg0 hg0 hs0)
  go_frame
  go_loopw [3] (fun i wr => ∃ (left : Lit → Bool) (cnt k : Nat), wr.ranges Try.prog 9 R1 bn w.heap.size s.now.length D left cnt ∧ i = .int .i64 k ∧ k + leftUsed s.now left = s.now.used ∧ Gr w wr) (fun _ wr => wr.rangeLeft bn w.heap.size)
  case atStart =>
    refine ⟨_, _, 0, hrg0, rfl, ?_, only_gr hg0⟩
    rw [Nat.zero_add]
    refine leftUsed_all _ fun q hq => ?_
    have h1 := (Classical.choose_spec h.now).1
    subst hD
    rw [zhas, h1]
    have : s.now.get q.1 = some q.2 := get_of_mem hok.now hq
    rw [this]
    rfl
  case round =>
    obtain ⟨left, cnt, k, hrg, rfl, hk, hG⟩ := hrel
    go_wp2_with (at_next; refine wpList_next_ranges _ rfl _ rfl 9 keyed R1 encStr (fun q : Option Addr × Nat × Nat => .slice q.1 q.2.1 q.2.2) (fun _ _ => key_inv) (fun _ _ hR => ⟨_, (Classical.choose_spec (R1_inv hR)).1⟩) bn w.heap.size s.now.length D left cnt rfl hrg ?_ ?_)
    · intro hc0 hl0
      go_wp2
      go_ret
      rw [leftUsed_none _ hl0] at hk
      exact ⟨by rw [← hk]; rfl, hG⟩
    · intro x qa qn qc kl y yp w1 cnt1 hkey hlk hR hat hrg1 hlt hg1 hs1 hen
      have hR2 : y = .held (.slice qa qn qc) := by
        obtain ⟨_, _, e⟩ := R1_inv hR
        exact congrArg Prod.fst e
      subst hD
      obtain ⟨m, b, e1, hm, hct⟩ := h.now.entry (fun d => (hat d).trans hR2) (keyed.key hkey)
      subst e1
      obtain ⟨A2, n2, c2', e2, hlen, hle, hcm, hrd⟩ := id hct
      injection e2 with e2 e3 e4
      subst e2 e3 e4
      have hstep := leftUsed_step hok.now hm hlk
      have hub := used_ge hm
      have hk2 : k + qn ≤ s.now.used := by omega
      go_wp2
      go_roundw
      case rel =>
        refine ⟨_, cnt1, k + qn, hrg1, by simp, ?_, Below.grown hG hg1 hG.size (fun g hg => by cases hg; exact Nat.le_refl _)⟩
        omega
      case measure => rw [hrg1.left_eq, hrg.left_eq]; exact hlt
theorem used_any (h : At w X p s) (hs : Sm s) : Calls Try.prog 14 #[.pointer (some ⟨p, 0, none⟩)] w fun e w' => e = .returned (.int .i64 (s.now.used : Nat)) ∧ Gr w w' := by
  obtain ⟨hok, bn, bk, A, c, h⟩ := h
  have := used_small hok hs.ops
  exact used_mem h hok (by unfold mostRoom at this; omega)

/-- (*Vfs).Names -/
theorem names_any (h : At w X p s) (hs : Sm s) : Calls Try.prog 17 #[.pointer (some ⟨p, 0, none⟩)] w fun e w' => ∃ A n c, e = .returned (.slice A n c) ∧ n = s.now.length ∧ Own w' w.heap.size 9 1 A n c ((s.now.map (·.1)).map encStr) ∧ Gr w w' := by
  obtain ⟨hok, bn, bk, A, c, h⟩ := h
  exact names_core w h.now hok.now (Nat.le_trans hok.nowL hs.ops) h.cells.1

set_option maxHeartbeats 1000000 in
/-- (*Vfs).Remove -/
theorem remove_any (h : At w X p s) (hs : Sm s) (n : Str) (hn : n.length ≤ maxLen) :
    Calls Try.prog 18 #[.pointer (some ⟨p, 0, none⟩), encStr n] w fun e w' => e = .returned (.int .i64 (s.remove n).2) ∧ ∃ X', At w' X' p (s.remove n).1 ∧ Mv w X w' X' := by
  have h' := h
  obtain ⟨hok, bn, bk, A, c, h⟩ := h
  obtain ⟨c0, c1, c2, c3, c4, c5, c6⟩ := h.cells
  cases hd : s.dead with
  | true =>
    have e1 : s.remove n = (s, 15) := by simp [V.remove, hd]
    rw [e1]
    rw [hd] at c6
    go_enter Try.func18, Try.ntmps18
    go_wp2
    go_ret
    exact ⟨rfl, X, h', Mv.rfl' _ _⟩
  | false =>
    rw [hd] at c6
    obtain ⟨A1, m1, cc, _, hrun⟩ := h.now.look_ok hn
    have hl := hrun w rfl
    cases hg : s.now.get n with
    | none =>
      have e1 : s.remove n = (s, 2) := by simp [V.remove, hd, hg]
      rw [e1]
      rw [hg] at hl
      simp only [Option.isSome_none] at hl
      clear hrun
      go_enter Try.func18, Try.ntmps18
      go_wp2
      go_ret
      exact ⟨rfl, X, h', Mv.rfl' _ _⟩
    | some b =>
      have e1 : s.remove n = (s.done ⟨n, [], true⟩, deadNo (s.done ⟨n, [], true⟩).dead) := by simp [V.remove, hd, hg]
      rw [e1]
      rw [hg] at hl
      simp only [Option.isSome_some] at hl
      have HD := Lib.hid (done_any (ch := ⟨n, [], true⟩) h hok hs (Cont.nil w X) (hok.nowB _ (get_some hg)).1 (Nat.zero_le _))
      unfold chV at HD
      clear hrun
      go_enter Try.func18, Try.ntmps18
      go_wp2_with (go_at_call 28; (with_reducible refine HD.out.mono ?_); rintro e w2 ⟨rfl, hr⟩)
      go_ret
      exact ⟨rfl, hr⟩

end
end Go.Proofs.Ytopellbmmkflgaa
