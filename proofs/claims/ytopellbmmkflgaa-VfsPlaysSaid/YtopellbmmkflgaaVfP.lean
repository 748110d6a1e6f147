/- Files by name, and what a power cut leaves of them: no program in sight. -/
import Derived.Test.YtopellbmmkflgaaApp
set_option linter.unusedVariables false
set_option linter.unusedSimpArgs false
namespace Go.Proofs.Ytopellbmmkflgaa
abbrev Str := List UInt8
abbrev Files := List (Str × Str)

/-! ### Lists in the order of a key -/
section
variable {α β : Type}
def insBy (key : α → Str) (x : α) : List α → List α
  | [] => [x]
  | y :: r => if bytesBefore (key x) (key y) then x :: y :: r else y :: insBy key x r
def Rising (key : α → Str) (l : List α) : Prop := l.Pairwise fun x y => bytesBefore (key x) (key y) = true
theorem insBy_map (g : β → α) (key : α → Str) (x : β) : ∀ l : List β, (insBy (fun b => key (g b)) x l).map g = insBy key (g x) (l.map g)
  | [] => rfl
  | y :: r => by
    unfold insBy
    simp only [List.map_cons]
    split <;> simp [insBy_map g key x r]
theorem mem_insBy {key : α → Str} {x y : α} : ∀ {l : List α}, y ∈ insBy key x l ↔ y = x ∨ y ∈ l
  | [] => by simp [insBy]
  | z :: r => by
    unfold insBy
    split
    · simp
    · simp [mem_insBy (l := r)]
      constructor
      · rintro (h | h | h) <;> simp [h]
      · rintro (h | h | h) <;> simp [h]
theorem length_insBy (key : α → Str) (x : α) : ∀ l : List α, (insBy key x l).length = l.length + 1
  | [] => rfl
  | y :: r => by
    unfold insBy
    split
    · rfl
    · simp [length_insBy key x r]
theorem bb_irrefl (a : Str) : bytesBefore a a = false := WideAt.bytes_irrefl a
theorem bb_trans {a b c : Str} : bytesBefore a b = true → bytesBefore b c = true → bytesBefore a c = true := WideShapes.bytes_trans a b c
theorem bb_total {a b : Str} (h : a ≠ b) : bytesBefore a b = true ∨ bytesBefore b a = true := WideAt.bytes_total a b h
theorem rising_insBy {key : α → Str} {x : α} : ∀ {l : List α}, Rising key l → (∀ y ∈ l, key y ≠ key x) → Rising key (insBy key x l)
  | [], _, _ => by simp [Rising, insBy]
  | y :: r, h, hn => by
    obtain ⟨h1, h2⟩ := List.pairwise_cons.1 h
    unfold insBy
    split
    · rename_i hb
      refine List.pairwise_cons.2 ⟨fun z hz => ?_, h⟩
      rcases List.mem_cons.1 hz with rfl | hz
      · exact hb
      · exact bb_trans hb (h1 z hz)
    · rename_i hb
      refine List.pairwise_cons.2 ⟨fun z hz => ?_, rising_insBy h2 (fun z hz => hn z (by simp [hz]))⟩
      rcases mem_insBy.1 hz with rfl | hz
      · rcases bb_total (hn y (by simp)) with h | h
        · exact h
        · exact absurd h hb
      · exact h1 z hz
theorem Rising.filter {key : α → Str} {l : List α} (h : Rising key l) (q : α → Bool) : Rising key (l.filter q) := List.Pairwise.filter _ h
end

def Files.put (l : Files) (n b : Str) : Files := insBy (·.1) (n, b) (l.filter fun p => !(p.1 == n))
def Files.del (l : Files) (n : Str) : Files := l.filter fun p => !(p.1 == n)
def Files.get (l : Files) (n : Str) : Option Str := (l.find? fun p => p.1 == n).map (·.2)
def Files.used (l : Files) : Nat := (l.map fun p => p.2.length).sum
abbrev Files.Rising (l : Files) : Prop := Go.Proofs.Ytopellbmmkflgaa.Rising (·.1) l

theorem put_rising {l : Files} (h : l.Rising) (n b : Str) : (l.put n b).Rising := rising_insBy (h.filter _) (fun y hy => by
  have := (List.mem_filter.1 hy).2
  simpa using this)
theorem del_rising {l : Files} (h : l.Rising) (n : Str) : (l.del n).Rising := h.filter _
theorem put_length (l : Files) (n b : Str) : (l.put n b).length ≤ l.length + 1 := by
  unfold Files.put
  rw [length_insBy]
  have := List.length_filter_le (fun p : Str × Str => !(p.1 == n)) l
  omega
theorem del_length (l : Files) (n : Str) : (l.del n).length ≤ l.length := List.length_filter_le _ _
theorem mem_put {l : Files} {n b : Str} {p : Str × Str} : p ∈ l.put n b ↔ p = (n, b) ∨ (p ∈ l ∧ p.1 ≠ n) := by
  unfold Files.put
  rw [mem_insBy, List.mem_filter]
  simp
theorem mem_del {l : Files} {n : Str} {p : Str × Str} : p ∈ l.del n ↔ p ∈ l ∧ p.1 ≠ n := by
  unfold Files.del
  rw [List.mem_filter]
  simp
theorem get_some {l : Files} {n b : Str} (h : l.get n = some b) : (n, b) ∈ l := by
  unfold Files.get at h
  obtain ⟨p, hp, rfl⟩ := Option.map_eq_some_iff.1 h
  have h1 := List.find?_some hp
  have h2 := List.mem_of_find?_eq_some hp
  have : p.1 = n := by simpa using h1
  rw [← this]
  exact h2
theorem rising_inj {l : Files} (h : l.Rising) {p q : Str × Str} (hp : p ∈ l) (hq : q ∈ l) (he : p.1 = q.1) : p = q := by
  induction l with
  | nil => simp at hp
  | cons x r ih =>
    obtain ⟨h1, h2⟩ := List.pairwise_cons.1 h
    rcases List.mem_cons.1 hp with rfl | hp' <;> rcases List.mem_cons.1 hq with rfl | hq'
    · rfl
    · have : bytesBefore p.1 q.1 = true := h1 q hq'
      rw [he, bb_irrefl] at this; cases this
    · have : bytesBefore q.1 p.1 = true := h1 p hp'
      rw [he, bb_irrefl] at this; cases this
    · exact ih h2 hp' hq'
theorem get_of_mem {l : Files} (h : l.Rising) {n b : Str} (hm : (n, b) ∈ l) : l.get n = some b := by
  unfold Files.get
  cases hf : l.find? (fun p => p.1 == n) with
  | none =>
    have := List.find?_eq_none.1 hf _ hm
    simp at this
  | some p =>
    have h1 : p.1 = n := by simpa using List.find?_some hf
    have h2 := List.mem_of_find?_eq_some hf
    have := rising_inj h h2 hm h1
    rw [this]
    rfl
theorem get_none {l : Files} {n : Str} : l.get n = none ↔ ∀ p ∈ l, p.1 ≠ n := by
  unfold Files.get
  rw [Option.map_eq_none_iff, List.find?_eq_none]
  simp
theorem get_iff {l : Files} (h : l.Rising) {n b : Str} : l.get n = some b ↔ (n, b) ∈ l := ⟨get_some, get_of_mem h⟩
theorem opt_ext {α : Type} {a b : Option α} (h : ∀ x, a = some x ↔ b = some x) : a = b := Option.ext h
theorem get_put {l : Files} (h : l.Rising) (n b m : Str) : (l.put n b).get m = if m = n then some b else l.get m := by
  apply Option.ext
  intro x
  rw [get_iff (put_rising h n b), mem_put]
  split
  · rename_i e
    subst e
    constructor
    · rintro (h1 | ⟨_, h1⟩)
      · injection h1 with _ h1; rw [h1]
      · exact absurd rfl h1
    · intro h1; injection h1 with h1; exact .inl (by rw [h1])
  · rename_i e
    rw [get_iff h]
    constructor
    · rintro (h1 | ⟨h1, _⟩)
      · injection h1 with h1; exact absurd h1 e
      · exact h1
    · intro h1; exact .inr ⟨h1, e⟩
theorem get_del {l : Files} (h : l.Rising) (n m : Str) : (l.del n).get m = if m = n then none else l.get m := by
  apply Option.ext
  intro x
  rw [get_iff (del_rising h n), mem_del]
  split
  · rename_i e
    subst e
    simp
  · rename_i e
    rw [get_iff h]
    simp [e]

/-! ### How many bytes -/
theorem used_insBy (x : Str × Str) : ∀ l : Files, Files.used (insBy (·.1) x l) = x.2.length + Files.used l
  | [] => by simp [insBy, Files.used]
  | y :: r => by
    unfold insBy
    split
    · simp [Files.used]
    · have := used_insBy x r
      simp only [Files.used, List.map_cons, List.sum_cons] at this ⊢
      omega
theorem used_filter {l : Files} (h : l.Rising) (n : Str) : Files.used (l.filter fun p => !(p.1 == n)) + ((l.get n).getD []).length = Files.used l := by
  induction l with
  | nil => simp [Files.used, Files.get]
  | cons x r ih =>
    obtain ⟨h1, h2⟩ := List.pairwise_cons.1 h
    have ih := ih h2
    by_cases e : x.1 = n
    · have hn : Files.get r n = none := get_none.2 fun p hp e2 => by
        have : bytesBefore x.1 p.1 = true := h1 p hp
        rw [e, e2, bb_irrefl] at this
        cases this
      rw [hn] at ih
      have hg : Files.get (x :: r) n = some x.2 := by simp [Files.get, e]
      rw [hg]
      simp only [Files.used, List.filter_cons, e, beq_self_eq_true, Bool.not_true, Bool.false_eq_true, if_false, List.map_cons, List.sum_cons, Option.getD_some, Option.getD_none, List.length_nil, Nat.add_zero] at ih ⊢
      omega
    · have hg : Files.get (x :: r) n = Files.get r n := by simp [Files.get, e]
      rw [hg]
      have e' : (x.1 == n) = false := by simpa using e
      simp only [Files.used, List.filter_cons, e', Bool.not_false, if_true, List.map_cons, List.sum_cons] at ih ⊢
      omega
theorem used_put {l : Files} (h : l.Rising) (n b : Str) : Files.used (l.put n b) + ((l.get n).getD []).length = Files.used l + b.length := by
  have h1 := used_filter h n
  unfold Files.put
  rw [used_insBy]
  simp only
  omega
theorem used_del {l : Files} (h : l.Rising) (n : Str) : Files.used (l.del n) + ((l.get n).getD []).length = Files.used l := used_filter h n
theorem used_ge {l : Files} {n b : Str} (h : (n, b) ∈ l) : b.length ≤ Files.used l := by
  induction l with
  | nil => simp at h
  | cons x r ih =>
    simp only [Files.used, List.map_cons, List.sum_cons] at ih ⊢
    rcases List.mem_cons.1 h with rfl | h
    · simp
    · have := ih h; omega
theorem get_le_used (l : Files) (n : Str) : ((l.get n).getD []).length ≤ Files.used l := by
  cases h : l.get n with
  | none => simp
  | some b => exact used_ge (get_some h)
theorem used_le {l : Files} {m : Nat} (h : ∀ p ∈ l, p.2.length ≤ m) : Files.used l ≤ l.length * m := by
  induction l with
  | nil => simp [Files.used]
  | cons x r ih =>
    have h1 := ih fun p hp => h p (by simp [hp])
    have h2 := h x (by simp)
    simp only [Files.used, List.map_cons, List.sum_cons, List.length_cons, Nat.add_mul, Nat.one_mul] at h1 ⊢
    omega

/-- What is still to come, in a range over files. -/
def leftUsed (l : Files) (left : Lit → Bool) : Nat := Files.used (l.filter fun p => left (.string p.1))
theorem leftUsed_all (l : Files) {left : Lit → Bool} (h : ∀ p ∈ l, left (.string p.1) = true) : leftUsed l left = Files.used l := by
  unfold leftUsed
  rw [List.filter_eq_self.2 h]
theorem leftUsed_none (l : Files) {left : Lit → Bool} (h : ∀ k, left k = false) : leftUsed l left = 0 := by
  unfold leftUsed
  rw [List.filter_eq_nil_iff.2 fun p _ => by simp [h]]
  rfl
theorem leftUsed_step {l : Files} (h : l.Rising) {left : Lit → Bool} {n b : Str} (hm : (n, b) ∈ l) (hl : left (.string n) = true) :
    leftUsed l left = b.length + leftUsed l (fun z => left z && !z.sameKey (.string n)) := by
  unfold leftUsed
  have hr : Files.Rising (l.filter fun p => left (.string p.1)) := h.filter _
  have hm' : (n, b) ∈ l.filter fun p => left (.string p.1) := List.mem_filter.2 ⟨hm, hl⟩
  have h1 := used_filter hr n
  rw [get_of_mem hr hm', List.filter_filter] at h1
  have e : (fun p : Str × Str => (!(p.1 == n)) && left (.string p.1)) = fun p => left (.string p.1) && !(Lit.string p.1).sameKey (.string n) := by
    funext p
    rw [Bool.and_comm]
    rfl
  rw [e] at h1
  simp only [Option.getD_some] at h1
  rw [← h1, Nat.add_comm]

/-! ### A change, a state -/
structure Ch where
  name : Str
  b : Str
  gone : Bool
def Ch.act (c : Ch) (l : Files) : Files := if c.gone then l.del c.name else l.put c.name c.b
def Ch.half (c : Ch) : Ch := { c with b := c.b.take (c.b.length / 2) }
theorem act_rising {l : Files} (h : l.Rising) (c : Ch) : (c.act l).Rising := by
  unfold Ch.act
  split
  · exact del_rising h _
  · exact put_rising h _ _
theorem act_length (l : Files) (c : Ch) : (c.act l).length ≤ l.length + 1 := by
  unfold Ch.act
  split
  · have := del_length l c.name; omega
  · exact put_length _ _ _
theorem mem_act {l : Files} {c : Ch} {p : Str × Str} (h : p ∈ c.act l) : p = (c.name, c.b) ∨ p ∈ l := by
  unfold Ch.act at h
  split at h
  · exact .inr (mem_del.1 h).1
  · rcases mem_put.1 h with h | h
    · exact .inl h
    · exact .inr h.1
theorem act_get {l : Files} (h : l.Rising) (c : Ch) (m : Str) : (c.act l).get m = if m = c.name then (if c.gone then none else some c.b) else l.get m := by
  unfold Ch.act
  split
  · rename_i hg
    rw [get_del h]
  · rename_i hg
    rw [get_put h]

structure V where
  now : Files
  kept : Files
  since : List Ch
  room : Nat
  stop : Nat
  ops : Nat
  dead : Bool

def mostRoom : Nat := 1048576
def roomOf (r : Int) : Nat := min r.toNat mostRoom
def V.new (r : Int) : V := ⟨[], [], [], roomOf r, 0, 0, false⟩
def V.step (s : V) : V := { s with ops := s.ops + 1, stop := s.stop - 1, dead := if s.stop = 0 then s.dead else decide (s.stop = 1) }
def V.done (s : V) (c : Ch) : V := V.step { s with now := c.act s.now, since := s.since ++ [c] }
def deadNo (d : Bool) : Int := if d then 15 else 0
def V.write (s : V) (n b : Str) : V × Int :=
  if s.dead then (s, 15) else if n = [] ∨ 20 < n.length then (s, 12)
  else if s.room < s.now.used - ((s.now.get n).getD []).length + b.length then (s, 14) else (s.done ⟨n, b, false⟩, deadNo (s.done ⟨n, b, false⟩).dead)
def V.remove (s : V) (n : Str) : V × Int :=
  if s.dead then (s, 15) else if (s.now.get n).isSome then (s.done ⟨n, [], true⟩, deadNo (s.done ⟨n, [], true⟩).dead) else (s, 2)
def V.flush (s : V) : V × Int :=
  if s.dead then (s, 15) else if s.step.dead then (s.step, 15) else ({ s.step with kept := s.now, since := [] }, 0)
def V.stopAt (s : V) (n : Int) : V := { s with stop := n.toNat }
/-- Of what was done since, that stays that is kept. -/
def crashF (l : Files) : List Ch → List Int → Files
  | c :: cs, k :: ks => crashF (if k = 1 then c.act l else if k = 2 then c.half.act l else l) cs ks
  | _, _ => l
def V.crash (s : V) (keep : List Int) : V := { s with now := crashF s.kept s.since keep, kept := crashF s.kept s.since keep, since := [], stop := 0, dead := false }

/-- What holds of every state. -/
structure V.Ok (s : V) : Prop where
  now : s.now.Rising
  kept : s.kept.Rising
  nowB : ∀ p ∈ s.now, p.1.length ≤ 20 ∧ p.2.length ≤ mostRoom
  keptB : ∀ p ∈ s.kept, p.1.length ≤ 20 ∧ p.2.length ≤ mostRoom
  sinceB : ∀ c ∈ s.since, c.name.length ≤ 20 ∧ c.b.length ≤ mostRoom
  nowL : s.now.length ≤ s.ops
  keptL : s.kept.length + s.since.length ≤ s.ops
  room : s.room ≤ mostRoom

theorem ok_new (r : Int) : (V.new r).Ok := ⟨List.Pairwise.nil, List.Pairwise.nil, by simp [V.new], by simp [V.new], by simp [V.new], Nat.le_refl _, Nat.le_refl _, Nat.min_le_right _ _⟩
theorem ok_done {s : V} (h : s.Ok) {c : Ch} (hn : c.name.length ≤ 20) (hb : c.b.length ≤ mostRoom) : (s.done c).Ok := by
  refine ⟨act_rising h.now c, h.kept, fun p hp => ?_, h.keptB, fun d hd => ?_, ?_, ?_, h.room⟩
  · rcases mem_act hp with rfl | hp
    · exact ⟨hn, hb⟩
    · exact h.nowB p hp
  · rcases List.mem_append.1 hd with hd | hd
    · exact h.sinceB d hd
    · have : d = c := by simpa using hd
      subst this
      exact ⟨hn, hb⟩
  · have h1 := act_length s.now c
    have h2 := h.nowL
    show (c.act s.now).length ≤ s.ops + 1
    omega
  · have h2 := h.keptL
    show s.kept.length + (s.since ++ [c]).length ≤ s.ops + 1
    simp
    omega
theorem ok_step {s : V} (h : s.Ok) : s.step.Ok := ⟨h.now, h.kept, h.nowB, h.keptB, h.sinceB, Nat.le_succ_of_le h.nowL, Nat.le_succ_of_le h.keptL, h.room⟩
theorem write_fits {s : V} {n b : Str} (h : ¬ s.room < s.now.used - ((s.now.get n).getD []).length + b.length) : b.length ≤ s.room := by omega
theorem ok_write {s : V} (h : s.Ok) (n b : Str) : (s.write n b).1.Ok := by
  unfold V.write
  split
  · exact h
  · split
    · exact h
    · split
      · exact h
      · rename_i h1 h2 h3
        refine ok_done h (by simp only; omega) ?_
        have := write_fits h3
        have := h.room
        simp only
        omega
theorem ok_remove {s : V} (h : s.Ok) (n : Str) : (s.remove n).1.Ok := by
  unfold V.remove
  split
  · exact h
  · split
    · rename_i h1 h2
      obtain ⟨b, hb⟩ := Option.isSome_iff_exists.1 h2
      exact ok_done h (h.nowB _ (get_some hb)).1 (by simp)
    · exact h
theorem ok_flush {s : V} (h : s.Ok) : s.flush.1.Ok := by
  unfold V.flush
  split
  · exact h
  · split
    · exact ok_step h
    · exact ⟨h.now, h.now, h.nowB, h.nowB, by simp, Nat.le_succ_of_le h.nowL, Nat.le_succ_of_le h.nowL, h.room⟩
theorem ok_stopAt {s : V} (h : s.Ok) (n : Int) : (s.stopAt n).Ok := ⟨h.now, h.kept, h.nowB, h.keptB, h.sinceB, h.nowL, h.keptL, h.room⟩
theorem half_b (c : Ch) : c.half.b.length ≤ c.b.length := by
  show (c.b.take (c.b.length / 2)).length ≤ _
  rw [List.length_take]
  omega
theorem crashF_ok : ∀ (cs : List Ch) (ks : List Int) (l : Files), l.Rising → (∀ p ∈ l, p.1.length ≤ 20 ∧ p.2.length ≤ mostRoom) → (∀ c ∈ cs, c.name.length ≤ 20 ∧ c.b.length ≤ mostRoom) →
    (crashF l cs ks).Rising ∧ (∀ p ∈ crashF l cs ks, p.1.length ≤ 20 ∧ p.2.length ≤ mostRoom) ∧ (crashF l cs ks).length ≤ l.length + cs.length
  | [], ks, l, h1, h2, h3 => ⟨h1, h2, by simp [crashF]⟩
  | c :: cs, [], l, h1, h2, h3 => ⟨h1, h2, by simp [crashF]⟩
  | c :: cs, k :: ks, l, h1, h2, h3 => by
    have hc := h3 c (by simp)
    have hh := half_b c
    have key : ∀ d : Ch, d.name.length ≤ 20 → d.b.length ≤ mostRoom → (d.act l).Rising ∧ (∀ p ∈ d.act l, p.1.length ≤ 20 ∧ p.2.length ≤ mostRoom) ∧ (d.act l).length ≤ l.length + 1 := fun d hn hb =>
      ⟨act_rising h1 d, fun p hp => by
        rcases mem_act hp with rfl | hp
        · exact ⟨hn, hb⟩
        · exact h2 p hp, act_length l d⟩
    have step : ∀ l' : Files, l'.Rising → (∀ p ∈ l', p.1.length ≤ 20 ∧ p.2.length ≤ mostRoom) → l'.length ≤ l.length + 1 →
        (crashF l' cs ks).Rising ∧ (∀ p ∈ crashF l' cs ks, p.1.length ≤ 20 ∧ p.2.length ≤ mostRoom) ∧ (crashF l' cs ks).length ≤ l.length + (c :: cs).length := fun l' a1 a2 a3 => by
      obtain ⟨b1, b2, b3⟩ := crashF_ok cs ks l' a1 a2 fun d hd => h3 d (by simp [hd])
      exact ⟨b1, b2, by simp; omega⟩
    unfold crashF
    split
    · obtain ⟨a1, a2, a3⟩ := key c hc.1 hc.2
      exact step _ a1 a2 a3
    · split
      · obtain ⟨a1, a2, a3⟩ := key c.half hc.1 (by omega)
        exact step _ a1 a2 a3
      · exact step _ h1 h2 (by omega)
theorem ok_crash {s : V} (h : s.Ok) (keep : List Int) : (s.crash keep).Ok := by
  obtain ⟨h1, h2, h3⟩ := crashF_ok s.since keep s.kept h.kept h.keptB h.sinceB
  have h4 := h.keptL
  refine ⟨h1, h1, h2, h2, by simp [V.crash], ?_, ?_, h.room⟩
  · show (crashF s.kept s.since keep).length ≤ s.ops
    omega
  · show (crashF s.kept s.since keep).length + 0 ≤ s.ops
    omega
theorem used_small {s : V} (h : s.Ok) (ho : s.ops ≤ 1000000) : s.now.used ≤ 1000000 * mostRoom := by
  have h1 := used_le fun p hp => (h.nowB p hp).2
  have h2 := h.nowL
  exact Nat.le_trans h1 (Nat.mul_le_mul_right _ (by omega))
end Go.Proofs.Ytopellbmmkflgaa
