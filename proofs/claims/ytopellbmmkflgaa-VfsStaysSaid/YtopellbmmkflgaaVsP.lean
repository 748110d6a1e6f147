/- VfsStays, plain: what stays behind a crash, name by name. -/
import Derived.Test.YtopellbmmkflgaaVfK
import Derived.Test.YtopellbmmkflgaaVsO
set_option linter.unusedVariables false
set_option linter.unusedSimpArgs false
namespace Go.Proofs.Ytopellbmmkflgaa
def nm3 (k : Nat) : Str := [[97], [98], [99]].getD k []
theorem nm3_len : ∀ k, k < 3 → (nm3 k).length = 1 := by decide
theorem nm3_inj : ∀ k, k < 3 → ∀ m, m < 3 → nm3 m = nm3 k → m = k := by decide
theorem crashF_snoc : ∀ (cs : List Ch) (ks : List Int) (l : Files) (c : Ch), crashF l (cs ++ [c]) ks = match ks[cs.length]? with | some k => crashStep (crashF l cs ks) c k | none => crashF l cs ks
  | [], [], l, c => rfl
  | [], k :: ks, l, c => by simp [crashF, crashStep, crashF_nil]
  | d :: cs, [], l, c => by simp [crashF]
  | d :: cs, k :: ks, l, c => by
    simp only [List.cons_append, crashF, List.length_cons, List.getElem?_cons_succ]
    exact crashF_snoc cs ks _ c
theorem crashF_rising {l : Files} (h : l.Rising) : ∀ (cs : List Ch) (ks : List Int), (crashF l cs ks).Rising
  | [], ks => by rw [crashF_nil]; exact h
  | c :: cs, [] => h
  | c :: cs, k :: ks => by
    unfold crashF
    split
    · exact crashF_rising (act_rising h c) cs ks
    · split
      · exact crashF_rising (act_rising h c.half) cs ks
      · exact crashF_rising h cs ks
/-- What a write that stays so makes of what is wanted. -/
def wantS (os : List (Option Str)) (k : Nat) (b : Str) (how : Option Int) : List (Option Str) :=
  if how = some 1 then os.set k (some b) else if how = some 2 then os.set k (some (b.take (b.length / 2))) else os
structure YI (s : V) (keep : List Int) (f : Bool) (m N : Nat) (os : List (Option Str)) : Prop where
  dead : s.dead = false
  stop : s.stop = 0
  room : s.room = 10000
  ops : s.ops ≤ N
  small : ∀ p ∈ s.now, p.2.length ≤ 200
  len : os.length = 3
  since : f = true → s.since.length = m
  want : ∀ k, k < 3 → (if f then crashF s.kept s.since keep else s.now).get (nm3 k) = os.getD k none
  some_le : ∀ o ∈ os, ∀ b, o = some b → b.length ≤ 200
section
variable {s : V} {keep : List Int} {f : Bool} {m N k : Nat} {os : List (Option Str)} {b : Str}
theorem YI.new (keep : List Int) : YI (V.new 10000) keep false 0 0 [none, none, none] := by
  refine ⟨rfl, rfl, rfl, Nat.le_refl _, by simp [V.new], rfl, by simp, fun k hk => ?_, by simp⟩
  have : k = 0 ∨ k = 1 ∨ k = 2 := by omega
  rcases this with rfl | rfl | rfl <;> rfl
theorem YI.more (h : YI s keep f m N os) : YI s keep f m (N + 1) os := ⟨h.dead, h.stop, h.room, Nat.le_succ_of_le h.ops, h.small, h.len, h.since, h.want, h.some_le⟩
theorem YI.anyM (h : YI s keep false m N os) (m' : Nat) : YI s keep false m' N os := ⟨h.dead, h.stop, h.room, h.ops, h.small, h.len, fun e => by simp at e, h.want, h.some_le⟩
theorem step_alive (h : s.dead = false) (h' : s.stop = 0) : s.step.dead = false := by
  show (if s.stop = 0 then s.dead else decide (s.stop = 1)) = false
  rw [if_pos h', h]
theorem YI.flush (h : YI s keep false m N os) : ∃ s', s.flush = (s', 0) ∧ YI s' keep true 0 (N + 1) os := by
  have hs := step_alive h.dead h.stop
  refine ⟨{ s.step with kept := s.now, since := [] }, ?_, hs, ?_, h.room, Nat.succ_le_succ h.ops, h.small, h.len, fun _ => rfl, fun k hk => ?_, h.some_le⟩
  · unfold V.flush
    rw [if_neg (by rw [h.dead]; simp), if_neg (by rw [hs]; simp)]
  · show s.stop - 1 = 0
    rw [h.stop]
  · have := h.want k hk
    simp only [if_true, Bool.false_eq_true, if_false, crashF_nil] at this ⊢
    exact this
theorem set_want {g : Files} (hg : g.Rising) (hl : os.length = 3) (hw : ∀ k, k < 3 → g.get (nm3 k) = os.getD k none) (hk : k < 3) (b : Str) : ∀ m, m < 3 → (g.put (nm3 k) b).get (nm3 m) = (os.set k (some b)).getD m none := by
  intro m hm
  rw [get_put hg]
  by_cases e : m = k
  · subst e
    rw [if_pos rfl]
    simp [List.getD_eq_getElem?_getD, hl, hm]
  · rw [if_neg (fun e2 => e (nm3_inj k hk m hm e2)), hw m hm, List.getD_eq_getElem?_getD, List.getD_eq_getElem?_getD, List.getElem?_set, if_neg (fun e2 : k = m => e e2.symm)]
theorem set_small (h : ∀ o ∈ os, ∀ b, o = some b → b.length ≤ 200) (hb : b.length ≤ 200) : ∀ o ∈ os.set k (some b), ∀ x, o = some x → x.length ≤ 200 := by
  intro o ho x hx
  rcases List.mem_or_eq_of_mem_set ho with h1 | h1
  · exact h o h1 x hx
  · rw [h1] at hx
    injection hx with hx
    rw [← hx]
    exact hb
theorem wantS_len (os : List (Option Str)) (k : Nat) (b : Str) (how : Option Int) : (wantS os k b how).length = os.length := by
  unfold wantS
  split
  · simp
  · split
    · simp
    · rfl
theorem wantS_small (h : ∀ o ∈ os, ∀ b, o = some b → b.length ≤ 200) (hb : b.length ≤ 200) (how : Option Int) : ∀ o ∈ wantS os k b how, ∀ x, o = some x → x.length ≤ 200 := by
  unfold wantS
  split
  · exact set_small h hb
  · split
    · exact set_small h (by rw [List.length_take]; omega)
    · exact h
theorem YI.write (h : YI s keep f m N os) (hok : s.Ok) (hk : k < 3) (hb : b.length ≤ 200) (hN : N ≤ 40) :
    ∃ s', s.write (nm3 k) b = (s', 0) ∧ YI s' keep f (m + 1) (N + 1) (wantS os k b (if f then keep[m]? else some 1)) := by
  have h1 := nm3_len k hk
  have h2 := Nat.le_trans hok.nowL h.ops
  have h3 := used_le h.small
  have h3' : s.now.used ≤ 40 * 200 := Nat.le_trans h3 (Nat.mul_le_mul_right _ (by omega))
  have hx : ¬ (nm3 k = [] ∨ 20 < (nm3 k).length) := by
    rintro (e | e)
    · rw [e] at h1; cases h1
    · omega
  have hs := step_alive h.dead h.stop
  have hd : (s.done ⟨nm3 k, b, false⟩).dead = false := hs
  refine ⟨s.done ⟨nm3 k, b, false⟩, ?_, hd, ?_, h.room, Nat.succ_le_succ h.ops, fun p hp => ?_, ?_, fun hf => ?_, fun q hq => ?_, ?_⟩
  · unfold V.write
    rw [if_neg (by rw [h.dead]; simp), if_neg hx, if_neg (by rw [h.room]; omega), hd]
    rfl
  · show s.stop - 1 = 0
    rw [h.stop]
  · rcases mem_put.1 hp with rfl | hp
    · exact hb
    · exact h.small p hp.1
  · rw [wantS_len]
    exact h.len
  · show (s.since ++ [_]).length = m + 1
    rw [List.length_append, h.since hf]
    rfl
  · cases f with
    | false =>
      have hw := h.want
      simp only [Bool.false_eq_true, if_false] at hw ⊢
      show (s.now.put (nm3 k) b).get (nm3 q) = _
      rw [set_want hok.now h.len hw hk b q hq]
      rfl
    | true =>
      have hw := h.want
      simp only [if_true] at hw ⊢
      show (crashF s.kept (s.since ++ [⟨nm3 k, b, false⟩]) keep).get (nm3 q) = _
      rw [crashF_snoc, h.since rfl]
      have hr := crashF_rising hok.kept s.since keep
      cases hm : keep[m]? with
      | none => simpa [wantS] using hw q hq
      | some v =>
        simp only [wantS, crashStep, Option.some.injEq]
        by_cases e1 : v = 1
        · rw [if_pos e1, if_pos e1]
          exact set_want hr h.len hw hk b q hq
        · rw [if_neg e1, if_neg e1]
          by_cases e2 : v = 2
          · rw [if_pos e2, if_pos e2]
            exact set_want hr h.len hw hk _ q hq
          · rw [if_neg e2, if_neg e2]
            exact hw q hq
  · exact wantS_small h.some_le hb _
theorem YI.read (h : YI s keep true m N os) (hk : k < 3) : (s.crash keep).read (nm3 k) = ((os.getD k none).getD [], (os.getD k none).isSome, 0) := by
  have hw := h.want k hk
  simp only [if_true] at hw
  show (((crashF s.kept s.since keep).get (nm3 k)).getD [], ((crashF s.kept s.since keep).get (nm3 k)).isSome, (0 : Int)) = _
  rw [hw]
end
end Go.Proofs.Ytopellbmmkflgaa
