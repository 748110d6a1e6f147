import Derived.Test.YtopellbmmkflgaaBase
import Derived.WalkKit
import Derived.Orders
import Derived.KernelRfl
set_option linter.unusedVariables false
set_option linter.unusedSimpArgs false
namespace Go.Proofs.Ytopellbmmkflgaa.Vc
open Go.RowKit

/-- What is known of the value that an operation leaves: the value; or a fact, at a stage of the chain. -/
inductive Fact where
  | is (v : Value)
  | fits (F : Nat → Value → World → Prop)
def Fact.holds : Fact → Nat → Value → World → Prop
  | .is v, _, u, _ => u = v
  | .fits F, k, u, w => F k u w

/-- The relations: what plain steps keep, what the chain's steps keep; the stages. -/
structure Frames where
  Le : World → World → Prop
  LeC : Nat → World → World → Prop
  G : Nat → World → Prop
  chain : List Nat

def Fact.stable (Φ : Frames) : Fact → Prop
  | .is _ => True
  | .fits F => (∀ k u w w', Φ.G k w → Φ.Le w w' → F k u w → F k u w') ∧ (∀ k u w w', Φ.G k w → Φ.LeC k w w' → Φ.G (k + 1) w' → F k u w → F (k + 1) u w')

abbrev Done := List (Option Nat × Fact)
def lk : Done → Nat → Option Fact
  | [], _ => none
  | (some d, f) :: r, t => if d = t then some f else lk r t
  | (none, _) :: r, t => lk r t
def factOf (done : Done) (a : Act) : Operand → Fact
  | .tmp t => match lk done t with | some f => f | none => .is (a.tmps.getD t undef)
  | .const v => .is v
  | .global g => .is (.pointer (some ⟨g, 0, none⟩))
  | .func f => .is (.func (.func f) #[] #[])
def dstOf (ops : Array Oper) (g : Nat) : Option Nat := (ops[g]?).bind (·.dst)
def guardFact (done : Done) (a : Act) (ops : Array Oper) (g : Nat) : Fact :=
  match dstOf ops g with
  | some d => factOf done a (.tmp d)
  | none => .is undef

/-- What an operation must come to. -/
def okUpon (P : Program) (F : Fact) (J : World → World → Prop) (k : Nat) (w : World) : Result Next → Prop
  | .ok (.value v) w' => F.holds k v w' ∧ J w w'
  | .ok .skip w' => F.holds k undef w' ∧ J w w'
  | .ok (.enter f args) w1 => Calls P f args w1 fun e w' => ∃ v, e = .returned v ∧ F.holds k v w' ∧ J w w'
  | _ => False

def factsHold (done : Done) (a : Act) (ρ : Operand → Value) (k : Nat) (w : World) : List Operand → Prop
  | [] => True
  | x :: r => (factOf done a x).holds k (ρ x) w ∧ factsHold done a ρ k w r

def bit (b : Array Nat) (i j : Nat) : Bool := (b.getD i 0).testBit j
/-- Stage k, world w, as operation i may meet them. -/
structure Frames.I (Φ : Frames) (b : Array Nat) (i k : Nat) (w : World) : Prop where
  g : Φ.G k w
  eq : ∀ m, Φ.chain.idxOf? i = some m → k = m
  le : ∀ m c, Φ.chain[m]? = some c → bit b c i = true → k ≤ m
  lt : ∀ m c, Φ.chain[m]? = some c → bit b i c = true → m < k
  top : k ≤ Φ.chain.length
def Frames.J (Φ : Frames) (i k : Nat) : World → World → Prop := fun w w' => match Φ.chain.idxOf? i with | some _ => Φ.LeC k w w' ∧ Φ.G (k + 1) w' | none => Φ.Le w w'
def Frames.next (Φ : Frames) (i k : Nat) : Nat := match Φ.chain.idxOf? i with | some _ => k + 1 | none => k

/-- One operation's share. -/
def StepOb (P : Program) (ops : Array Oper) (a : Act) (Φ : Frames) (b : Array Nat) (i : Nat) (done : Done) (o : Oper) (F : Fact) : Prop :=
  ∀ (ρ : Operand → Value) (k : Nat) (w : World), Φ.I b i k w → factsHold done a ρ k w o.op.operands.toList →
    match o.guard with
    | none => okUpon P F (Φ.J i k) (Φ.next i k) w ((execOp ρ o).run P w)
    | some (g, want) => ∀ vg, (guardFact done a ops g).holds k vg w →
      (vg = .bool want → okUpon P F (Φ.J i k) (Φ.next i k) w ((execOp ρ o).run P w)) ∧ (vg ≠ .bool want → F.holds (Φ.next i k) undef w ∧ Φ.J i k w w)

def finish (Q : Act → Prop) (k : Nat) (w : World) : Done → Act → Prop
  | [], a => Q a
  | (none, _) :: r, a => finish Q k w r a
  | (some d, .is v) :: r, a => finish Q k w r (a.put (some d) v)
  | (some d, .fits F) :: r, a => ∀ u, F k u w → finish Q k w r (a.put (some d) u)

/-- The walk in the order of the text; it serves every order. -/
def Walk (P : Program) (ops : Array Oper) (a : Act) (Φ : Frames) (b : Array Nat) (Q : Act → World → Prop) : Nat → Done → List Oper → Prop
  | _, done, [] => ∀ w, Φ.G Φ.chain.length w → finish (fun a' => Q a' w) Φ.chain.length w done.reverse a
  | i, done, o :: l => ∃ F : Fact, F.stable Φ ∧ StepOb P ops a Φ b i done o F ∧ Walk P ops a Φ b Q (i + 1) ((o.dst, F) :: done) l

/-! ### The order -/
def tmpsOf (ops : Array Oper) (o : Oper) : List Nat :=
  (o.op.operands.toList.filterMap fun | .tmp t => some t | _ => none) ++ (match o.guard with | some (g, _) => (dstOf ops g).toList | none => [])
def okEdges (ops : Array Oper) (b : Array Nat) (i : Nat) (o : Oper) : Bool :=
  (o.after.all fun e => !Region.binds .any e || Nat.blt e.on i) &&
  ((List.range ops.size).all fun j => !bit b i j || o.after.any fun e => Region.binds .any e && (Nat.beq e.on j || bit b e.on j))
def okTmps (ops : Array Oper) (b : Array Nat) (size : Nat) (i : Nat) (o : Oper) : Bool :=
  (match o.dst with | some d => Nat.blt d size | none => true) &&
  ((List.range ops.size).all fun j => Nat.beq j i || match dstOf ops j with
    | none => true
    | some d => (match o.dst with | some d' => !Nat.beq d d' | none => true) && (!(tmpsOf ops o).contains d || bif Nat.blt j i then bit b i j else bit b j i))
def chainOk (b : Array Nat) (n : Nat) : List Nat → Bool
  | [] => true
  | [c] => Nat.blt c n
  | c :: d :: r => Nat.blt c d && bit b d c && chainOk b n (d :: r)
/-- Edges go back; each is among what 'b' says; 'b' says no more than what edges bring about; whoever reads or writes a temporary that another one writes stands in an order with it; no temporary is written twice. -/
def okB (ops : Array Oper) (b : Array Nat) (chain : List Nat) (size : Nat) : Bool :=
  ((List.range ops.size).all fun i => match ops[i]? with
    | none => true
    | some o => okEdges ops b i o && okTmps ops b size i o) && chainOk b ops.size chain

section
variable {P : Program} {ops : Array Oper} {b : Array Nat} {chain : List Nat} {size : Nat}

theorem okB_at (h : okB ops b chain size = true) {i : Nat} {o : Oper} (hi : ops[i]? = some o) : okEdges ops b i o = true ∧ okTmps ops b size i o = true := by
  simp only [okB, Bool.and_eq_true, List.all_eq_true, List.mem_range] at h
  have h1 := h.1 i (Array.getElem?_eq_some_iff.1 hi).1
  simp only [hi, Bool.and_eq_true] at h1
  exact h1

theorem edge_lt (h : okB ops b chain size = true) {i : Nat} {o : Oper} (hi : ops[i]? = some o) {e : Edge} (he : e ∈ o.after) (hb : Region.binds .any e = true) : e.on < i := by
  have h1 := (okB_at h hi).1
  simp only [okEdges, Bool.and_eq_true] at h1
  have h2 := Array.all_eq_true_iff_forall_mem.1 h1.1 e he
  simpa [hb, Nat.blt_eq] using h2

theorem bit_edge (h : okB ops b chain size = true) {i j : Nat} {o : Oper} (hi : ops[i]? = some o) (hj : j < ops.size) (hbit : bit b i j = true) :
    ∃ e ∈ o.after, Region.binds .any e = true ∧ (e.on = j ∨ bit b e.on j = true) := by
  have h1 := (okB_at h hi).1
  simp only [okEdges, Bool.and_eq_true, List.all_eq_true, List.mem_range] at h1
  have h2 := h1.2 j hj
  simp only [hbit, Bool.not_true, Bool.false_or] at h2
  obtain ⟨e, he, h3⟩ := Array.any_eq_true'.1 h2
  simp only [Bool.and_eq_true, Bool.or_eq_true, Nat.beq_eq] at h3
  exact ⟨e, he, h3.1, h3.2⟩

/-- What has come up is closed: what each waits for has come up. -/
def Closed (ops : Array Oper) (L : Nat → Bool) : Prop := ∀ i o, ops[i]? = some o → L i = true → ∀ e ∈ o.after, Region.binds .any e = true → L e.on = true

theorem listed_of_bit (h : okB ops b chain size = true) {L : Nat → Bool} (hc : Closed ops L) (j : Nat) (hj : j < ops.size) :
    ∀ (i : Nat) (o : Oper), ops[i]? = some o → (∀ e ∈ o.after, Region.binds .any e = true → L e.on = true) → bit b i j = true → L j = true := by
  intro i
  induction i using Nat.strongRecOn with
  | _ i ih =>
    intro o hi hall hbit
    obtain ⟨e, he, hb, h1⟩ := bit_edge h hi hj hbit
    rcases h1 with rfl | h1
    · exact hall e he hb
    · have hlt := edge_lt h hi he hb
      have hil := (Array.getElem?_eq_some_iff.1 hi).1
      have hon : ops[e.on]? = some ops[e.on] := Array.getElem?_eq_getElem (by omega)
      exact ih e.on hlt _ hon (hc e.on _ hon (hall e he hb)) h1

theorem uniq (h : okB ops b chain size = true) {i j d : Nat} (hi : dstOf ops i = some d) (hj : dstOf ops j = some d) : i = j := by
  by_cases hne : j = i
  · exact hne.symm
  · exfalso
    unfold dstOf at hi hj
    obtain ⟨o, ho, hd⟩ := Option.bind_eq_some_iff.1 hi
    have h1 := (okB_at h ho).2
    simp only [okTmps, Bool.and_eq_true, List.all_eq_true, List.mem_range] at h1
    obtain ⟨oj, hoj, hdj⟩ := Option.bind_eq_some_iff.1 hj
    have h2 := h1.2 j (Array.getElem?_eq_some_iff.1 hoj).1
    simp only [dstOf, hj, hd, Bool.or_eq_true, Nat.beq_eq, hne, false_or, Bool.and_eq_true] at h2
    have := h2.1
    simp at this

theorem dst_lt (h : okB ops b chain size = true) {i d : Nat} (hi : dstOf ops i = some d) : d < size := by
  unfold dstOf at hi
  obtain ⟨o, ho, hd⟩ := Option.bind_eq_some_iff.1 hi
  have h1 := (okB_at h ho).2
  simp only [okTmps, Bool.and_eq_true, hd, Nat.blt_eq] at h1
  exact h1.1

theorem ordered (h : okB ops b chain size = true) {i j d : Nat} {o : Oper} (hi : ops[i]? = some o) (hj : dstOf ops j = some d) (hne : j ≠ i) (hd : d ∈ tmpsOf ops o) :
    (j < i ∧ bit b i j = true) ∨ (i < j ∧ bit b j i = true) := by
  have h1 := (okB_at h hi).2
  simp only [okTmps, Bool.and_eq_true, List.all_eq_true, List.mem_range] at h1
  have hjl : j < ops.size := by
    unfold dstOf at hj
    obtain ⟨oj, hoj, _⟩ := Option.bind_eq_some_iff.1 hj
    exact (Array.getElem?_eq_some_iff.1 hoj).1
  have h2 := h1.2 j hjl
  simp only [hj, Bool.or_eq_true, Nat.beq_eq, hne, false_or, Bool.and_eq_true] at h2
  have h3 := h2.2
  have hd' : (tmpsOf ops o).contains d = true := by simpa using hd
  simp only [hd', Bool.not_true, Bool.false_eq_true, false_or] at h3
  by_cases hlt : j < i
  · have : Nat.blt j i = true := by simpa [Nat.blt_eq] using hlt
    rw [this] at h3
    exact .inl ⟨hlt, h3⟩
  · have : Nat.blt j i = false := by
      cases hb : Nat.blt j i
      · rfl
      · rw [Nat.blt_eq] at hb; exact absurd hb hlt
    rw [this] at h3
    exact .inr ⟨by omega, h3⟩

/-! ### The facts of the first operations -/
def doneOf (ops : Array Oper) (Fs : Nat → Fact) : Nat → Done
  | 0 => []
  | k + 1 => (dstOf ops k, Fs k) :: doneOf ops Fs k

theorem lk_none {Fs : Nat → Fact} {t : Nat} : ∀ k, (∀ j, j < k → dstOf ops j ≠ some t) → lk (doneOf ops Fs k) t = none
  | 0, _ => rfl
  | k + 1, h => by
    have ih := lk_none (Fs := Fs) k (fun j hj => h j (by omega))
    unfold doneOf
    cases hd : dstOf ops k with
    | none => simpa [lk] using ih
    | some d =>
      have hne : d ≠ t := fun e => h k (by omega) (by rw [hd, e])
      simpa [lk, hne] using ih

theorem lk_some (h : okB ops b chain size = true) {Fs : Nat → Fact} {t j : Nat} (hj : dstOf ops j = some t) : ∀ k, j < k → lk (doneOf ops Fs k) t = some (Fs j)
  | 0, hlt => absurd hlt (by omega)
  | k + 1, hlt => by
    unfold doneOf
    by_cases hk : k = j
    · subst hk
      simp [lk, hj]
    · have ih := lk_some h (Fs := Fs) hj k (by omega)
      cases hd : dstOf ops k with
      | none => simpa [lk] using ih
      | some d =>
        have hne : d ≠ t := fun e => hk (uniq h (by rw [hd, e]) hj)
        simpa [lk, hne] using ih

/-- What the walk in the order of the text gives. -/
theorem walk_gives {a : Act} {Φ : Frames} {Q : Act → World → Prop} : ∀ (l : List Oper) (k : Nat) (Fs₀ : Nat → Fact), (∀ j, l[j]? = ops[k + j]?) → k + l.length = ops.size →
    Walk P ops a Φ b Q k (doneOf ops Fs₀ k) l →
    ∃ Fs : Nat → Fact, (∀ j, j < k → Fs j = Fs₀ j) ∧ (∀ i o, k ≤ i → ops[i]? = some o → (Fs i).stable Φ ∧ StepOb P ops a Φ b i (doneOf ops Fs i) o (Fs i)) ∧
      ∀ w, Φ.G Φ.chain.length w → finish (fun a' => Q a' w) Φ.chain.length w (doneOf ops Fs ops.size).reverse a
  | [], k, Fs₀, hl, hk, h => by
    refine ⟨Fs₀, fun _ _ => rfl, fun i o hi ho => ?_, ?_⟩
    · have := (Array.getElem?_eq_some_iff.1 ho).1
      simp at hk
      omega
    · have hk' : k = ops.size := by simpa using hk
      rw [← hk']
      exact h
  | o :: l, k, Fs₀, hl, hk, h => by
    have h0 : ops[k]? = some o := by simpa using (hl 0).symm
    obtain ⟨F, hst, hob, hw⟩ := h
    let Fs₁ : Nat → Fact := fun j => if j = k then F else Fs₀ j
    have hdone : ∀ m, m ≤ k → doneOf ops Fs₁ m = doneOf ops Fs₀ m := by
      intro m
      induction m with
      | zero => intro _; rfl
      | succ m ihm =>
        intro hm
        have : Fs₁ m = Fs₀ m := by simp [Fs₁, show m ≠ k by omega]
        simp only [doneOf, this, ihm (by omega)]
    have hstep : doneOf ops Fs₁ (k + 1) = (o.dst, F) :: doneOf ops Fs₀ k := by
      have : Fs₁ k = F := by simp [Fs₁]
      simp only [doneOf, this, hdone k (Nat.le_refl _), dstOf, h0, Option.bind_some]
    rw [← hstep] at hw
    obtain ⟨Fs, hsame, hall, hfin⟩ := walk_gives l (k + 1) Fs₁ (fun j => by have := hl (j + 1); simpa [Nat.add_assoc, Nat.add_comm 1 j] using this) (by simp at hk; omega) hw
    have hFk : Fs k = F := by rw [hsame k (by omega)]; simp [Fs₁]
    have hFd : ∀ m, m ≤ k → doneOf ops Fs m = doneOf ops Fs₀ m := by
      intro m
      induction m with
      | zero => intro _; rfl
      | succ m ihm =>
        intro hm
        have h1 : Fs m = Fs₀ m := by rw [hsame m (by omega)]; simp [Fs₁, show m ≠ k by omega]
        simp only [doneOf, h1, ihm (by omega)]
    refine ⟨Fs, fun j hj => ?_, fun i oi hi hoi => ?_, hfin⟩
    · rw [hsame j (by omega)]
      simp [Fs₁, show j ≠ k by omega]
    · by_cases hik : i = k
      · subst hik
        rw [h0] at hoi
        injection hoi with hoi
        subst hoi
        rw [hFk, hFd i (Nat.le_refl _)]
        exact ⟨hst, hob⟩
      · exact hall i oi (by omega) hoi

/-! ### Stages -/
theorem count_of {p : Nat → Bool} : ∀ (c : List Nat) (k : Nat), k ≤ c.length → (∀ m (hm : m < c.length), p c[m] = decide (m < k)) → (c.filter p).length = k
  | [], k, hk, _ => by simp at hk; simp [hk]
  | x :: c, 0, _, h => by
    have h0 := h 0 (by simp)
    simp at h0
    rw [List.filter_cons, if_neg (by simp [h0])]
    exact count_of c 0 (Nat.zero_le _) fun m hm => by have := h (m + 1) (by simpa using hm); simpa using this
  | x :: c, k + 1, hk, h => by
    have h0 := h 0 (by simp)
    simp at h0
    rw [List.filter_cons, if_pos h0, List.length_cons]
    rw [count_of c k (by simpa using hk) fun m hm => by have := h (m + 1) (by simpa using hm); simpa using this]

theorem chain_facts : ∀ (c : List Nat), chainOk b ops.size c = true → (∀ m (hm : m < c.length), c[m] < ops.size) ∧ (∀ m (hm : m + 1 < c.length), bit b c[m + 1] (c[m]'(by omega)) = true) ∧ ∀ m m' (hm : m' < c.length) (hlt : m < m'), c[m]'(by omega) < c[m']
  | [], _ => ⟨fun m hm => by simp at hm, fun m hm => by simp at hm, fun m m' hm => by simp at hm⟩
  | [x], h => by
    simp only [chainOk, Nat.blt_eq] at h
    refine ⟨fun m hm => ?_, fun m hm => by simp at hm, fun m m' hm hlt => by simp at hm; omega⟩
    have : m = 0 := by simpa using hm
    subst this
    exact h
  | x :: y :: r, h => by
    simp only [chainOk, Bool.and_eq_true, Nat.blt_eq] at h
    obtain ⟨⟨hxy, hb⟩, hr⟩ := h
    obtain ⟨h1, h2, h3⟩ := chain_facts (y :: r) hr
    refine ⟨fun m hm => ?_, fun m hm => ?_, fun m m' hm hlt => ?_⟩
    · cases m with
      | zero => have := h1 0 (by simp); simp at this ⊢; omega
      | succ m => exact h1 m (by simpa using hm)
    · cases m with
      | zero => exact hb
      | succ m => exact h2 m (by simpa using hm)
    · cases m' with
      | zero => omega
      | succ m' =>
        cases m with
        | zero =>
          have hm' : m' < (y :: r).length := by simpa using hm
          by_cases h0 : m' = 0
          · subst h0; exact hxy
          · have := h3 0 m' hm' (by omega)
            simp at this ⊢
            omega
        | succ m => exact h3 m m' (by simpa using hm) (by omega)
end
end Go.Proofs.Ytopellbmmkflgaa.Vc
namespace Go.Proofs.Ytopellbmmkflgaa.Vc
open Go.RowKit
section
variable {P : Program} {ops : Array Oper} {b : Array Nat} {size : Nat}

def cnt (Φ : Frames) (listed : Array Bool) : Nat := (Φ.chain.filter fun c => listed.getD c false).length
structure Inv (ops : Array Oper) (a : Act) (Φ : Frames) (Fs : Nat → Fact) (listed : Array Bool) (a' : Act) (w : World) : Prop where
  lsize : listed.size = ops.size
  closed : Closed ops fun i => listed.getD i false
  size : a'.tmps.size = a.tmps.size
  defers : a'.defers = a.defers
  base : ∀ t, (∀ j, listed.getD j false = true → dstOf ops j ≠ some t) → a'.tmps[t]? = a.tmps[t]?
  facts : ∀ j d, listed.getD j false = true → dstOf ops j = some d → (Fs j).holds (cnt Φ listed) (a'.tmps.getD d undef) w
  stage : Φ.G (cnt Φ listed) w

theorem getD_base {a a' : Act} {t : Nat} (h : a'.tmps[t]? = a.tmps[t]?) : a'.tmps.getD t undef = a.tmps.getD t undef := by
  simp only [Array.getD_eq_getD_getElem?, h]

theorem listed_true {listed : Array Bool} {i : Nat} (h : listed.getD i true = false) : listed.getD i false = false := by
  rcases Nat.lt_or_ge i listed.size with h' | h'
  · simp [h'] at h ⊢; exact h
  · simp [Array.getElem?_eq_none h'] at h

/-- The value of a temporary that operation i reads fits what the walk in the order of the text knew of it. -/
theorem tmp_fact {a a' : Act} {w : World} {Φ : Frames} {Fs : Nat → Fact} {listed : Array Bool} {i t : Nat} {o : Oper} (h : okB ops b Φ.chain size = true) (hI : Inv ops a Φ Fs listed a' w)
    (hi : ops[i]? = some o) (hun : listed.getD i false = false) (hall : ∀ e ∈ o.after, Region.binds .any e = true → listed.getD e.on false = true) (ht : t ∈ tmpsOf ops o) :
    (factOf (doneOf ops Fs i) a (.tmp t)).holds (cnt Φ listed) (a'.tmps.getD t undef) w := by
  by_cases hw : ∃ j, dstOf ops j = some t
  · obtain ⟨j, hj⟩ := hw
    by_cases hji : j = i
    · subst hji
      have hn : lk (doneOf ops Fs j) t = none := lk_none j fun j' hj' e => by have := uniq h e hj; omega
      have hb : a'.tmps[t]? = a.tmps[t]? := hI.base t fun j' hl e => by have := uniq h e hj; subst this; rw [hun] at hl; cases hl
      simp only [factOf, hn, Fact.holds]
      exact getD_base hb
    · rcases ordered h hi hj hji ht with ⟨hlt, hbit⟩ | ⟨hlt, hbit⟩
      · have hjl : j < ops.size := by have := (Array.getElem?_eq_some_iff.1 hi).1; omega
        have hlj : listed.getD j false = true := listed_of_bit h hI.closed j hjl i o hi hall hbit
        simp only [factOf, lk_some h hj i hlt]
        exact hI.facts j t hlj hj
      · have hn : lk (doneOf ops Fs i) t = none := lk_none i fun j' hj' e => by have := uniq h e hj; omega
        have hb : a'.tmps[t]? = a.tmps[t]? := hI.base t fun j' hl e => by
          have hjj := uniq h e hj
          subst hjj
          have hil := (Array.getElem?_eq_some_iff.1 hi).1
          unfold dstOf at hj
          obtain ⟨oj, hoj, _⟩ := Option.bind_eq_some_iff.1 hj
          have := listed_of_bit h hI.closed i hil j' oj hoj (fun e he hb => hI.closed j' oj hoj hl e he hb) hbit
          rw [hun] at this
          cases this
        simp only [factOf, hn, Fact.holds]
        exact getD_base hb
  · have hno : ∀ j, dstOf ops j ≠ some t := fun j e => hw ⟨j, e⟩
    have hn : lk (doneOf ops Fs i) t = none := lk_none i fun j _ => hno j
    simp only [factOf, hn, Fact.holds]
    exact getD_base (hI.base t fun j _ => hno j)

theorem put_size (a : Act) (d : Option Tmp) (v : Value) : (a.put d v).tmps.size = a.tmps.size := by cases d <;> simp [Act.put]
theorem put_defers_same (a : Act) (d : Option Tmp) (v : Value) : (a.put d v).defers = a.defers := by cases d <;> rfl

theorem initial {p : Nat → Bool} : ∀ (c : List Nat), (∀ m (hm : m + 1 < c.length), p c[m + 1] = true → p (c[m]'(by omega)) = true) → ∀ m (hm : m < c.length), p c[m] = decide (m < (c.filter p).length)
  | [], _, m, hm => by simp at hm
  | x :: c, h, m, hm => by
    have ht : ∀ m (hm : m + 1 < c.length), p c[m + 1] = true → p (c[m]'(by omega)) = true := fun m hm hp => by
      have := h (m + 1) (by simpa using hm)
      simp only [List.getElem_cons_succ] at this
      exact this hp
    cases hx : p x with
    | true =>
      rw [List.filter_cons, if_pos hx, List.length_cons]
      cases m with
      | zero => simp [hx]
      | succ m =>
        have := initial c ht m (by simpa using hm)
        simp [this]
    | false =>
      have hall : ∀ m (hm : m < (x :: c).length), p (x :: c)[m] = false := by
        intro m
        induction m with
        | zero => intro _; simpa using hx
        | succ m ih =>
          intro hm
          cases hc : p (x :: c)[m + 1] with
          | false => rfl
          | true =>
            have h1 := h m hm hc
            have h2 := ih (by omega)
            rw [h2] at h1
            cases h1
      have hnil : (x :: c).filter p = [] := List.filter_eq_nil_iff.2 fun y hy => by
        obtain ⟨k, hk, rfl⟩ := List.getElem_of_mem hy
        rw [hall k hk]
        simp
      rw [hnil, hall m hm]
      simp

theorem stage_prefix {a a' : Act} {w : World} {Φ : Frames} {Fs : Nat → Fact} {listed : Array Bool} (h : okB ops b Φ.chain size = true) (hI : Inv ops a Φ Fs listed a' w) :
    ∀ m (hm : m < Φ.chain.length), listed.getD Φ.chain[m] false = decide (m < cnt Φ listed) := by
  have hch : chainOk b ops.size Φ.chain = true := by
    have := h
    simp only [okB, Bool.and_eq_true] at this
    exact this.2
  obtain ⟨c1, c2, c3⟩ := chain_facts Φ.chain hch
  refine initial (p := fun c => listed.getD c false) Φ.chain fun m hm hl => ?_
  have hx := c1 (m + 1) hm
  have ho : ops[Φ.chain[m + 1]]? = some ops[Φ.chain[m + 1]] := Array.getElem?_eq_getElem hx
  exact listed_of_bit h hI.closed _ (c1 m (by omega)) _ _ ho (fun e he hbd => hI.closed _ _ ho hl e he hbd) (c2 m hm)

theorem stage_at {a a' : Act} {w : World} {Φ : Frames} {Fs : Nat → Fact} {listed : Array Bool} {i : Nat} {o : Oper} (h : okB ops b Φ.chain size = true) (hI : Inv ops a Φ Fs listed a' w)
    (hi : ops[i]? = some o) (hun : listed.getD i false = false) (hall : ∀ e ∈ o.after, Region.binds .any e = true → listed.getD e.on false = true) : Φ.I b i (cnt Φ listed) w := by
  have hch : chainOk b ops.size Φ.chain = true := by
    have := h
    simp only [okB, Bool.and_eq_true] at this
    exact this.2
  obtain ⟨c1, c2, c3⟩ := chain_facts Φ.chain hch
  have hp := stage_prefix h hI
  have hle : ∀ m c, Φ.chain[m]? = some c → bit b c i = true → cnt Φ listed ≤ m := by
    intro m c hc hb
    obtain ⟨hm, rfl⟩ := List.getElem?_eq_some_iff.1 hc
    have hx := c1 m hm
    have ho : ops[Φ.chain[m]]? = some ops[Φ.chain[m]] := Array.getElem?_eq_getElem hx
    cases hl : listed.getD Φ.chain[m] false with
    | true =>
      have := listed_of_bit h hI.closed i (Array.getElem?_eq_some_iff.1 hi).1 _ _ ho (fun e he hbd => hI.closed _ _ ho hl e he hbd) hb
      exact absurd (hun.symm.trans this) (by simp)
    | false =>
      have := hp m hm
      rw [hl] at this
      simpa using this.symm
  have hlt : ∀ m c, Φ.chain[m]? = some c → bit b i c = true → m < cnt Φ listed := by
    intro m c hc hb
    obtain ⟨hm, rfl⟩ := List.getElem?_eq_some_iff.1 hc
    have h1 : listed.getD Φ.chain[m] false = true := listed_of_bit h hI.closed _ (c1 m hm) i o hi hall hb
    have := hp m hm
    rw [h1] at this
    simpa using this.symm
  refine ⟨hI.stage, fun m hk => ?_, hle, hlt, List.length_filter_le _ _⟩
  rw [List.idxOf?_eq_some_iff] at hk
  obtain ⟨hm, he, _⟩ := hk
  have hmi : Φ.chain[m] = i := by simpa using he
  have h1 : cnt Φ listed ≤ m := by
    have := hp m hm
    rw [hmi, hun] at this
    simpa using this.symm
  cases m with
  | zero => omega
  | succ m =>
    have hb := c2 m hm
    rw [hmi] at hb
    have := hlt m _ (List.getElem?_eq_getElem (by omega)) hb
    omega

theorem cnt_next {a a' : Act} {w : World} {Φ : Frames} {Fs : Nat → Fact} {listed : Array Bool} {i : Nat} {o : Oper} (h : okB ops b Φ.chain size = true) (hI : Inv ops a Φ Fs listed a' w)
    (hi : ops[i]? = some o) (hun : listed.getD i false = false) (hall : ∀ e ∈ o.after, Region.binds .any e = true → listed.getD e.on false = true) :
    cnt Φ (listed.setIfInBounds i true) = Φ.next i (cnt Φ listed) := by
  have hil : i < listed.size := by have := (Array.getElem?_eq_some_iff.1 hi).1; rw [hI.lsize]; exact this
  have hset : ∀ c, (listed.setIfInBounds i true).getD c false = (decide (c = i) || listed.getD c false) := fun c => by
    by_cases hc : i = c
    · subst hc; simp [hil]
    · rw [getD_set_ne false hc]; simp [Ne.symm hc]
  have hat := stage_at h hI hi hun hall
  have hp := stage_prefix h hI
  unfold Frames.next
  cases hk : Φ.chain.idxOf? i with
  | none =>
    have hni : i ∉ Φ.chain := by
      intro hm
      rw [List.idxOf?_eq_none_iff] at hk
      exact absurd hm (by simpa using hk)
    have hsame : (Φ.chain.filter fun c => (listed.setIfInBounds i true).getD c false) = Φ.chain.filter fun c => listed.getD c false :=
      List.filter_congr fun c hc => by
        have : c ≠ i := fun e => hni (e ▸ hc)
        rw [hset c]
        simp [this]
    unfold cnt
    rw [hsame]
  | some m =>
    have hkm := hat.eq m hk
    rw [List.idxOf?_eq_some_iff] at hk
    obtain ⟨hm, he, _⟩ := hk
    have hmi : Φ.chain[m] = i := by simpa using he
    have hch : chainOk b ops.size Φ.chain = true := by
      have := h
      simp only [okB, Bool.and_eq_true] at this
      exact this.2
    obtain ⟨c1, c2, c3⟩ := chain_facts Φ.chain hch
    simp only []
    rw [hkm] at hp ⊢
    refine count_of _ (m + 1) (by omega) fun m' hm' => ?_
    rw [hset, hp m' hm']
    by_cases h1 : m' < m
    · simp [h1, show m' < m + 1 by omega]
    · by_cases h2 : m' = m
      · subst h2; simp [hmi]
      · have h3 := c3 m m' hm' (by omega)
        rw [hmi] at h3
        have h4 : Φ.chain[m'] ≠ i := by omega
        simp [h4, show ¬ m' < m + 1 by omega]
        omega

theorem inv_next {a a' : Act} {w w1 : World} {Φ : Frames} {Fs : Nat → Fact} {listed : Array Bool} {i : Nat} {o : Oper} {v : Value} (h : okB ops b Φ.chain a.tmps.size = true)
    (hG : ∀ k w w', Φ.Le w w' → Φ.G k w → Φ.G k w') (hst : ∀ i o, ops[i]? = some o → (Fs i).stable Φ) (hI : Inv ops a Φ Fs listed a' w)
    (hi : ops[i]? = some o) (hun : listed.getD i false = false) (hall : ∀ e ∈ o.after, Region.binds .any e = true → listed.getD e.on false = true)
    (hF : (Fs i).holds (Φ.next i (cnt Φ listed)) v w1) (hJ : Φ.J i (cnt Φ listed) w w1) : Inv ops a Φ Fs (listed.setIfInBounds i true) (a'.put o.dst v) w1 := by
  have hil : i < listed.size := by have := (Array.getElem?_eq_some_iff.1 hi).1; rw [hI.lsize]; exact this
  have hcn := cnt_next h hI hi hun hall
  have hset : ∀ c, (listed.setIfInBounds i true).getD c false = true → c = i ∨ listed.getD c false = true := fun c hc => by
    by_cases hci : i = c
    · exact .inl hci.symm
    · rw [getD_set_ne false hci] at hc; exact .inr hc
  have hdi : dstOf ops i = o.dst := by simp [dstOf, hi]
  have hstage : Φ.G (cnt Φ (listed.setIfInBounds i true)) w1 := by
    rw [hcn]
    unfold Frames.J at hJ
    unfold Frames.next
    cases hk : Φ.chain.idxOf? i with
    | none => rw [hk] at hJ; exact hG _ _ _ hJ hI.stage
    | some m => rw [hk] at hJ; exact hJ.2
  have hkeep : ∀ (f : Fact) u, f.stable Φ → f.holds (cnt Φ listed) u w → f.holds (cnt Φ (listed.setIfInBounds i true)) u w1 := by
    intro f u hs hh
    cases f with
    | is v => exact hh
    | fits F =>
      rw [hcn]
      unfold Frames.J at hJ
      unfold Frames.next
      cases hk : Φ.chain.idxOf? i with
      | none => rw [hk] at hJ; exact hs.1 _ _ _ _ hI.stage hJ hh
      | some m => rw [hk] at hJ; exact hs.2 _ _ _ _ hI.stage hJ.1 hJ.2 hh
  refine ⟨by simp [hI.lsize], fun j oj hj hl e he hb => ?_, by rw [put_size]; exact hI.size, by rw [put_defers_same]; exact hI.defers, fun t ht => ?_, fun j d hl hd => ?_, hstage⟩
  · rcases hset j hl with rfl | hl
    · rw [hi] at hj
      injection hj with hj
      subst hj
      exact getD_set_true (hall e he hb)
    · exact getD_set_true (hI.closed j oj hj hl e he hb)
  · have hb := hI.base t fun j hl => ht j (getD_set_true hl)
    have hne : o.dst ≠ some t := by
      rw [← hdi]
      exact ht i (by simp [hil])
    cases hd : o.dst with
    | none => exact hb
    | some d =>
      have : d ≠ t := fun e => hne (by rw [hd, e])
      simp only [Act.put, Array.getElem?_setIfInBounds_ne this]
      exact hb
  · by_cases hji : j = i
    · subst hji
      rw [hdi] at hd
      have hlt : d < a'.tmps.size := by rw [hI.size]; exact dst_lt h (hdi.trans hd)
      simp only [hd, Act.put]
      have : (a'.tmps.setIfInBounds d v).getD d undef = v := by simp [hlt]
      rw [this, hcn]
      exact hF
    · have hl' : listed.getD j false = true := by
        rcases hset j hl with e | hl'
        · exact absurd e hji
        · exact hl'
      have hold := hI.facts j d hl' hd
      have hval : (a'.put o.dst v).tmps.getD d undef = a'.tmps.getD d undef := by
        cases hd' : o.dst with
        | none => rfl
        | some d' =>
          have : d' ≠ d := fun e => hji (uniq h hd (by rw [hdi, hd', e]))
          simp only [Act.put, Array.getD_eq_getD_getElem?, Array.getElem?_setIfInBounds_ne this]
      rw [hval]
      have hjs : ∃ oj, ops[j]? = some oj := by
        unfold dstOf at hd
        obtain ⟨oj, hoj, _⟩ := Option.bind_eq_some_iff.1 hd
        exact ⟨oj, hoj⟩
      obtain ⟨oj, hoj⟩ := hjs
      exact hkeep _ _ (hst j oj hoj) hold

theorem facts_all {a a' : Act} {w : World} {Φ : Frames} {Fs : Nat → Fact} {listed : Array Bool} {i : Nat} {o : Oper} (h : okB ops b Φ.chain size = true) (hI : Inv ops a Φ Fs listed a' w)
    (hi : ops[i]? = some o) (hun : listed.getD i false = false) (hall : ∀ e ∈ o.after, Region.binds .any e = true → listed.getD e.on false = true) :
    ∀ xs : List Operand, (∀ x ∈ xs, x ∈ o.op.operands) → factsHold (doneOf ops Fs i) a a'.eval (cnt Φ listed) w xs
  | [], _ => trivial
  | x :: r, hx => by
    refine ⟨?_, facts_all h hI hi hun hall r fun y hy => hx y (List.mem_cons_of_mem _ hy)⟩
    cases x with
    | tmp t => exact tmp_fact h hI hi hun hall (List.mem_append_left _ (List.mem_filterMap.2 ⟨.tmp t, by simpa using hx _ (List.mem_cons_self ..), rfl⟩))
    | const v => rfl
    | global g => rfl
    | func f => rfl

theorem count_set {listed : Array Bool} {i : Nat} (hi : i < listed.size) (hun : listed.getD i false = false) :
    (listed.toList.count false) = ((listed.setIfInBounds i true).toList.count false) + 1 := by
  have h0 : listed.toList[i]'(by simpa using hi) = false := by simpa [hi] using hun
  rw [Array.toList_setIfInBounds, List.count_set (by simpa using hi)]
  simp only [h0]
  have h1 : 0 < listed.toList.count false := List.count_pos_iff.2 (h0 ▸ List.getElem_mem _)
  have e1 : (false == false) = true := rfl
  have e2 : (true == false) = false := rfl
  simp only [e1, e2, if_true, Bool.false_eq_true, if_false]
  omega

theorem ready_nil {a a' : Act} {w : World} {Φ : Frames} {Fs : Nat → Fact} {listed : Array Bool} (h : okB ops b Φ.chain size = true) (hI : Inv ops a Φ Fs listed a' w)
    (hr : Region.ready .any ops listed = []) : ∀ i, i < ops.size → listed.getD i false = true := by
  intro i
  induction i using Nat.strongRecOn with
  | _ i ih =>
    intro hi
    cases hc : listed.getD i false
    · exfalso
      have hon : ops[i]? = some ops[i] := Array.getElem?_eq_getElem hi
      have hm : i ∈ Region.ready .any ops listed := mem_ready.2 ⟨by
        have hil : i < listed.size := by rw [hI.lsize]; exact hi
        simp [hil] at hc ⊢
        exact hc, _, hon, fun e he hb => ih e.on (edge_lt h hon he hb) (by have := edge_lt h hon he hb; omega)⟩
      rw [hr] at hm
      cases hm
    · rfl

theorem finish_gives {chain : List Nat} {a a' : Act} {st : Nat} {w : World} {Fs : Nat → Fact} {Q : Act → Prop} (h : okB ops b chain a.tmps.size = true)
    (hsz : a'.tmps.size = a.tmps.size) (hdf : a'.defers = a.defers) (hbase : ∀ t, (∀ j, j < ops.size → dstOf ops j ≠ some t) → a'.tmps[t]? = a.tmps[t]?)
    (hfacts : ∀ j d, j < ops.size → dstOf ops j = some d → (Fs j).holds st (a'.tmps.getD d undef) w) :
    ∀ (n k : Nat) (x : Act), k + n = ops.size → x.tmps.size = a.tmps.size → x.defers = a.defers →
      (∀ t, (∀ j, k ≤ j → j < ops.size → dstOf ops j ≠ some t) → x.tmps[t]? = a'.tmps[t]?) →
      finish Q st w ((List.range' k n).map fun j => (dstOf ops j, Fs j)) x → Q a'
  | 0, k, x, hk, hs, hd, hx, hfin => by
    have : x = a' := by
      obtain ⟨xt, xd⟩ := x
      obtain ⟨at', ad⟩ := a'
      have e1 : xt = at' := Array.ext_getElem? fun t => hx t fun j h1 h2 => by omega
      have e2 : xd = ad := by simp at hd hdf; rw [hd, hdf]
      rw [e1, e2]
    rw [← this]
    exact hfin
  | n + 1, k, x, hk, hs, hd, hx, hfin => by
    simp only [List.range'_succ, List.map_cons] at hfin
    have step : ∀ d v, dstOf ops k = some d → a'.tmps.getD d undef = v → finish Q st w ((List.range' (k + 1) n).map fun j => (dstOf ops j, Fs j)) (x.put (some d) v) → Q a' := by
      intro d v hdk hv hf
      refine finish_gives h hsz hdf hbase hfacts n (k + 1) (x.put (some d) v) (by omega) (by rw [put_size]; exact hs) (by rw [put_defers_same]; exact hd) (fun t ht => ?_) hf
      by_cases htd : d = t
      · subst htd
        have hlt : d < x.tmps.size := by rw [hs]; exact dst_lt h hdk
        have hlt' : d < a'.tmps.size := by rw [hsz]; exact dst_lt h hdk
        simp only [Act.put]
        rw [Array.getElem?_setIfInBounds_self_of_lt hlt, ← hv]
        simp [hlt']
      · simp only [Act.put, Array.getElem?_setIfInBounds_ne htd]
        exact hx t fun j h1 h2 => by
          by_cases hjk : j = k
          · subst hjk; rw [hdk]; intro e; injection e with e; exact htd e
          · exact ht j (by omega) h2
    cases hdk : dstOf ops k with
    | none =>
      rw [hdk] at hfin
      simp only [finish] at hfin
      refine finish_gives h hsz hdf hbase hfacts n (k + 1) x (by omega) hs hd (fun t ht => hx t fun j h1 h2 => ?_) hfin
      by_cases hjk : j = k
      · subst hjk; rw [hdk]; intro e; cases e
      · exact ht j (by omega) h2
    | some d =>
      rw [hdk] at hfin
      have hf := hfacts k d (by omega) hdk
      cases hF : Fs k with
      | is v =>
        rw [hF] at hfin hf
        simp only [finish] at hfin
        exact step d v hdk hf hfin
      | fits F =>
        rw [hF] at hfin hf
        simp only [finish] at hfin
        exact step d _ hdk rfl (hfin _ hf)

theorem doneOf_reverse (Fs : Nat → Fact) : ∀ n, (doneOf ops Fs n).reverse = (List.range' 0 n).map fun j => (dstOf ops j, Fs j)
  | 0 => rfl
  | n + 1 => by
    rw [doneOf, List.reverse_cons, doneOf_reverse Fs n, List.range'_concat, List.map_append]
    simp

theorem rep_false (n i : Nat) : (Array.replicate n false).getD i false = false := by
  rcases Nat.lt_or_ge i n with h | h
  · simp [h]
  · simp [Array.getElem?_eq_none, h]

theorem undef_ne (b : Bool) : undef ≠ Value.bool b := by unfold undef; intro h; cases h

theorem walk_any {a : Act} {Φ : Frames} {Fs : Nat → Fact} {Q : Exit → Act → World → Prop} (h : okB ops b Φ.chain a.tmps.size = true)
    (hG : ∀ k w w', Φ.Le w w' → Φ.G k w → Φ.G k w')
    (hob : ∀ i o, ops[i]? = some o → (Fs i).stable Φ ∧ StepOb P ops a Φ b i (doneOf ops Fs i) o (Fs i))
    (hfin : ∀ w, Φ.G Φ.chain.length w → finish (fun a' => Q .normal a' w) Φ.chain.length w (doneOf ops Fs ops.size).reverse a) :
    ∀ (fuel : Nat) (listed : Array Bool) (a' : Act) (w : World), listed.toList.count false = fuel → Inv ops a Φ Fs listed a' w → wpAny P .any ops Q fuel listed a' w := by
  have done : ∀ (listed : Array Bool) (a' : Act) (w : World), Inv ops a Φ Fs listed a' w → Region.ready .any ops listed = [] → Q .normal a' w := by
    intro listed a' w hI hr
    have hall := ready_nil h hI hr
    have hcl : cnt Φ listed = Φ.chain.length := by
      have hch : chainOk b ops.size Φ.chain = true := by
        have := h
        simp only [okB, Bool.and_eq_true] at this
        exact this.2
      have hc := (chain_facts Φ.chain hch).1
      have : (Φ.chain.filter fun c => listed.getD c false) = Φ.chain := List.filter_eq_self.2 fun c hc' => by
        obtain ⟨m, hm, he⟩ := List.getElem_of_mem hc'
        exact hall c (he ▸ hc m hm)
      unfold cnt
      rw [this]
    have hstage : Φ.G Φ.chain.length w := hcl ▸ hI.stage
    have hf := hfin w hstage
    rw [doneOf_reverse] at hf
    refine finish_gives (Q := fun a' => Q .normal a' w) h hI.size hI.defers (fun t ht => hI.base t fun j hl => ?_) (fun j d hj hd => hcl ▸ hI.facts j d (hall j hj) hd) ops.size 0 a (by omega) rfl rfl (fun t ht => ?_) hf
    · intro e
      have hjl : j < ops.size := by
        unfold dstOf at e
        obtain ⟨oj, hoj, _⟩ := Option.bind_eq_some_iff.1 e
        exact (Array.getElem?_eq_some_iff.1 hoj).1
      exact ht j hjl e
    · exact (hI.base t fun j hl e => by
        have hjl : j < ops.size := by
          unfold dstOf at e
          obtain ⟨oj, hoj, _⟩ := Option.bind_eq_some_iff.1 e
          exact (Array.getElem?_eq_some_iff.1 hoj).1
        exact ht j (by omega) hjl e).symm
  intro fuel
  induction fuel with
  | zero =>
    intro listed a' w hc hI
    have hnil : Region.ready .any ops listed = [] := by
      cases hr : Region.ready .any ops listed with
      | nil => rfl
      | cons x xs =>
        exfalso
        have hm : x ∈ Region.ready .any ops listed := by rw [hr]; simp
        obtain ⟨hx, ox, hox, _⟩ := mem_ready.1 hm
        have hlt : x < listed.size := by rw [hI.lsize]; exact (Array.getElem?_eq_some_iff.1 hox).1
        have := count_set hlt (listed_true hx)
        omega
    exact ⟨hnil, done listed a' w hI hnil⟩
  | succ fuel ih =>
    intro listed a' w hc hI
    refine ⟨done listed a' w hI, fun i hm => ?_⟩
    obtain ⟨hun', o, hi, hall⟩ := mem_ready.1 hm
    have hun := listed_true hun'
    have hlt : i < listed.size := by rw [hI.lsize]; exact (Array.getElem?_eq_some_iff.1 hi).1
    have hcount : (listed.setIfInBounds i true).toList.count false = fuel := by have := count_set hlt hun; omega
    obtain ⟨hst, hob'⟩ := hob i o hi
    have hIi := stage_at h hI hi hun hall
    have hfs := facts_all h hI hi hun hall o.op.operands.toList (fun x hx => by simpa using hx)
    have hsteps := hob' a'.eval _ w hIi hfs
    have next : ∀ v w1, (Fs i).holds (Φ.next i (cnt Φ listed)) v w1 → Φ.J i (cnt Φ listed) w w1 → wpAny P .any ops Q fuel (listed.setIfInBounds i true) (a'.put o.dst v) w1 := fun v w1 hF hJ =>
      ih _ _ _ hcount (inv_next h hG (fun j oj hj => (hob j oj hj).1) hI hi hun hall hF hJ)
    have run : okUpon P (Fs i) (Φ.J i (cnt Φ listed)) (Φ.next i (cnt Φ listed)) w ((execOp a'.eval o).run P w) → Oper.wp P o a' w (wpAny P .any ops Q fuel (listed.setIfInBounds i true)) Q := by
      intro hok
      unfold Oper.wp
      generalize (execOp a'.eval o).run P w = r at *
      cases r with
      | ok n w1 =>
        cases n <;> simp only [okUpon] at hok <;> simp only [Oper.upon]
        case value v => exact next v w1 hok.1 hok.2
        case skip => exact next undef w1 hok.1 hok.2
        case enter f args => exact hok.mono fun e w2 ⟨v, he, h1, h2⟩ => by subst he; exact next v w2 h1 h2
      | halt x w1 => simp only [okUpon] at hok
    unfold wpOp
    simp only [hi]
    cases hg : o.guard with
    | none =>
      simp only [hg] at hsteps
      simp only [Region.wanted, hg, if_true]
      exact .inl (run hsteps)
    | some gw =>
      obtain ⟨g, want⟩ := gw
      simp only [hg] at hsteps
      cases hd : dstOf ops g with
      | none =>
        have hy : yielded ops a'.tmps g = none := by simp only [dstOf] at hd; simp [yielded, hd]
        have hw : Region.wanted o (yielded ops a'.tmps) = false := by simp [Region.wanted, hg, hy]
        obtain ⟨_, h2⟩ := hsteps undef (by simp only [guardFact, hd]; rfl)
        obtain ⟨hF, hJ⟩ := h2 (undef_ne want)
        rw [hw]
        exact next undef w hF hJ
      | some d =>
        have hdt : d ∈ tmpsOf ops o := List.mem_append_right _ (by simp [hg, hd])
        have hfg := tmp_fact h hI hi hun hall hdt
        obtain ⟨h1, h2⟩ := hsteps (a'.tmps.getD d undef) (by simp only [guardFact, hd]; exact hfg)
        have hd' := hd
        simp only [dstOf] at hd'
        by_cases hv : a'.tmps.getD d undef = .bool want
        · have hw : Region.wanted o (yielded ops a'.tmps) = true := by
            have : a'.tmps[d]? = some (.bool want) := by
              rcases Nat.lt_or_ge d a'.tmps.size with h' | h'
              · simp [h'] at hv ⊢; exact hv
              · simp [Array.getElem?_eq_none h'] at hv
                exact absurd hv (undef_ne want)
            simp [Region.wanted, hg, yielded, hd', this]
          rw [hw]
          exact .inl (run (h1 hv))
        · have hw : Region.wanted o (yielded ops a'.tmps) = false := by
            simp only [Region.wanted, hg, yielded, hd', Option.bind_some]
            rcases Nat.lt_or_ge d a'.tmps.size with h' | h'
            · have hx : a'.tmps[d]? = some (a'.tmps.getD d undef) := by simp [h']
              rw [hx]
              cases hval : a'.tmps.getD d undef <;> simp_all
            · simp [Array.getElem?_eq_none h']
          obtain ⟨hF, hJ⟩ := h2 hv
          rw [hw]
          exact next undef w hF hJ

/-- **A REGION THAT DRAWS ITS ORDER, WALKED ONCE, IN THE ORDER OF THE TEXT, BY FACTS.** -/
theorem wp_region_facts {id : Nat} {l : List Oper} {a : Act} {w : World} {Q : Exit → Act → World → Prop} (Φ : Frames) (hm : P.follows .mixedOrders = true)
    (h : okB l.toArray (Region.before l.toArray) Φ.chain a.tmps.size = true) (hG : ∀ k w w', Φ.Le w w' → Φ.G k w → Φ.G k w') (h0 : Φ.G 0 w.drew)
    (hw : Walk P l.toArray a Φ (Region.before l.toArray) (fun a' w' => Q .normal a' w') 0 [] l) : (Code.region id l.toArray true).wp P Q a w := by
  refine wp_region_any hm ?_
  obtain ⟨Fs, _, hall, hfin⟩ := walk_gives (P := P) (ops := l.toArray) (b := Region.before l.toArray) (a := a) (Φ := Φ) (Q := fun a' w' => Q .normal a' w') l 0 (fun _ => .is undef) (fun j => by simp) (by simp) hw
  refine walk_any h hG (fun i o hi => hall i o (Nat.zero_le _) hi) hfin _ _ a w.drew (by simp) ⟨by simp, fun i o hi hl => ?_, rfl, rfl, fun t _ => rfl, fun j d hl => ?_, ?_⟩
  · exact absurd ((rep_false _ _).symm.trans hl) (by simp)
  · exact absurd ((rep_false _ _).symm.trans hl) (by simp)
  · have : (Φ.chain.filter fun c => (Array.replicate l.toArray.size false).getD c false) = [] := List.filter_eq_nil_iff.2 fun c _ => by rw [rep_false]; simp
    unfold cnt
    rw [this]
    exact h0

/-! ### Facts that hold at one stage, and till the chain's next step -/
def At (m : Nat) (F : Value → World → Prop) : Nat → Value → World → Prop := fun k v w => m ≤ k ∧ (k ≤ m → F v w)
theorem At.stable {Φ : Frames} {m : Nat} {F : Value → World → Prop} (h : ∀ u w w', Φ.Le w w' → F u w → F u w') : (Fact.fits (At m F)).stable Φ :=
  ⟨fun k u w w' _ hl hf => ⟨hf.1, fun hk => h u w w' hl (hf.2 hk)⟩, fun k u w w' _ _ _ hf => ⟨Nat.le_succ_of_le hf.1, fun hk => by have := hf.1; omega⟩⟩
/-- Facts that hold at every stage. -/
def All (F : Value → World → Prop) : Nat → Value → World → Prop := fun _ v w => F v w
theorem All.stable {Φ : Frames} {F : Value → World → Prop} (h : ∀ u w w', Φ.Le w w' → F u w → F u w') (hc : ∀ k u w w', Φ.G k w → Φ.LeC k w w' → F u w → F u w') : (Fact.fits (All F)).stable Φ :=
  ⟨fun _ u w w' _ hl hf => h u w w' hl hf, fun k u w w' hg hl _ hf => hc k u w w' hg hl hf⟩

/-! ### Steps -/
section
variable {a : Act} {Φ : Frames} {Q : Act → World → Prop} {i : Nat} {done : Done} {o : Oper} {l : List Oper}

/-- The value of an operand that is known. -/
def known (done : Done) (a : Act) (x : Operand) : Value := match factOf done a x with | .is v => v | .fits _ => undef
def isKnown (done : Done) (a : Act) (x : Operand) : Bool := match factOf done a x with | .is _ => true | .fits _ => false
theorem known_tmp (done : Done) (a : Act) (t : Tmp) : known done a (.tmp t) = match lk done t with | some (.is v) => v | some (.fits _) => undef | none => a.tmps.getD t undef := by
  simp only [known, factOf]
  cases lk done t with
  | none => rfl
  | some f => cases f <;> rfl
theorem known_const (done : Done) (a : Act) (v : Value) : known done a (.const v) = v := rfl
theorem known_func (done : Done) (a : Act) (f : FuncId) : known done a (.func f) = .func (.func f) #[] #[] := rfl
theorem known_global (done : Done) (a : Act) (g : Nat) : known done a (.global g) = .pointer (some ⟨g, 0, none⟩) := rfl

theorem known_facts {ρ : Operand → Value} {k : Nat} {w : World} : ∀ {xs : List Operand}, xs.all (isKnown done a) = true → factsHold done a ρ k w xs → ∀ x ∈ xs, ρ x = known done a x
  | [], _, _, x, hx => by cases hx
  | y :: r, hk, hf, x, hx => by
    simp only [List.all_cons, Bool.and_eq_true] at hk
    cases hx with
    | head =>
      have h1 := hf.1
      have h2 := hk.1
      unfold isKnown at h2
      unfold known
      cases hfx : factOf done a y with
      | is v => rw [hfx] at h1; exact h1
      | fits F => rw [hfx] at h2; cases h2
    | tail _ hm => exact known_facts hk.2 hf.2 x hm

def noSel : Op → Bool
  | .select .. => false
  | _ => true
theorem noSel_spec {op : Op} (h : noSel op = true) (cs : Array SelectCase) (b : Bool) : op ≠ .select cs b := by
  intro e; subst e; cases h

theorem known_exec {ρ : Operand → Value} {k : Nat} {w : World} (hs : noSel o.op = true) (hk : o.op.operands.toList.all (isKnown done a) = true) (hf : factsHold done a ρ k w o.op.operands.toList) : execOp ρ o = execOp (known done a) o :=
  execOp_congr o (noSel_spec hs) fun x hx => known_facts hk hf x (by simpa using hx)

/-- The guard of an operation says yes. -/
def GuardYes (ops : Array Oper) (done : Done) (a : Act) (o : Oper) : Prop :=
  o.guard = none ∨ ∃ g want, o.guard = some (g, want) ∧ guardFact done a ops g = .is (.bool want)
theorem GuardYes.no (h : o.guard = none) : GuardYes ops done a o := .inl h
theorem GuardYes.yes {g : Nat} {want : Bool} (h : o.guard = some (g, want)) (hf : guardFact done a ops g = .is (.bool want)) : GuardYes ops done a o := .inr ⟨g, want, h, hf⟩

theorem StepOb.of {F : Fact} (hg : GuardYes ops done a o)
    (h : ∀ ρ k w, Φ.I b i k w → factsHold done a ρ k w o.op.operands.toList → okUpon P F (Φ.J i k) (Φ.next i k) w ((execOp ρ o).run P w)) : StepOb P ops a Φ b i done o F := by
  intro ρ k w hI hf
  rcases hg with hg | ⟨g, want, hg, hgf⟩
  · simp only [hg]
    exact h ρ k w hI hf
  · simp only [hg, hgf, Fact.holds]
    rintro vg rfl
    exact ⟨fun _ => h ρ k w hI hf, fun hn => absurd rfl hn⟩

/-- An operation whose operands are known, that yields one value and leaves the world as it is. -/
theorem Walk.pure {v : Value} (hle : ∀ w, Φ.Le w w) (hch : Φ.chain.idxOf? i = none) (hg : GuardYes ops done a o) (hs : noSel o.op = true) (hk : o.op.operands.toList.all (isKnown done a) = true)
    (h : ∀ k w, Φ.I b i k w → (execOp (known done a) o).run P w = .ok (.value v) w)
    (hw : Walk P ops a Φ b Q (i + 1) ((o.dst, .is v) :: done) l) : Walk P ops a Φ b Q i done (o :: l) := by
  refine ⟨.is v, trivial, StepOb.of hg fun ρ k w hI hf => ?_, hw⟩
  simp only [known_exec hs hk hf, h k w hI, okUpon, Fact.holds, true_and]
  unfold Frames.J
  rw [hch]
  exact hle w

/-- An operation under a guard that says no. -/
theorem Walk.skip {bb : Bool} {g : Nat} {want : Bool} (hle : ∀ w, Φ.Le w w) (hch : Φ.chain.idxOf? i = none) (hg : o.guard = some (g, want)) (hgf : guardFact done a ops g = .is (.bool bb)) (hb : bb ≠ want)
    (hw : Walk P ops a Φ b Q (i + 1) ((o.dst, .is undef) :: done) l) : Walk P ops a Φ b Q i done (o :: l) := by
  refine ⟨.is undef, trivial, fun ρ k w hI hf => ?_, hw⟩
  simp only [hg, hgf, Fact.holds]
  rintro vg rfl
  refine ⟨fun h => absurd (by injection h) hb, fun _ => ⟨trivial, ?_⟩⟩
  unfold Frames.J
  rw [hch]
  exact hle w

/-- An operation whose operands are known: a call, mostly. -/
theorem Walk.call (F : Fact) (hst : F.stable Φ) (hg : GuardYes ops done a o) (hs : noSel o.op = true) (hk : o.op.operands.toList.all (isKnown done a) = true)
    (h : ∀ k w, Φ.I b i k w → okUpon P F (Φ.J i k) (Φ.next i k) w ((execOp (known done a) o).run P w))
    (hw : Walk P ops a Φ b Q (i + 1) ((o.dst, F) :: done) l) : Walk P ops a Φ b Q i done (o :: l) :=
  ⟨F, hst, StepOb.of hg fun ρ k w hI hf => by rw [known_exec hs hk hf]; exact h k w hI, hw⟩

/-- string(b), b a slice whose bytes are known. -/
theorem Walk.str {d : Option Tmp} {src dst e : TypeId} {x : Operand} {ty : TypeId} {pos : String} {af : Array Edge} {gd : Option (Nat × Bool)} (bs : List UInt8)
    (hle : ∀ w, Φ.Le w w) (hch : Φ.chain.idxOf? i = none) (hg : GuardYes ops done a ⟨d, .convert src dst x, ty, pos, af, gd⟩)
    (hs : P.underlying src = some (.slice e)) (he : P.underlying e = some (.int .u8)) (hd : P.underlying dst = some .string)
    (hf : ∀ k w u, Φ.I b i k w → (factOf done a x).holds k u w → ∃ A n c, u = .slice A n c ∧ Hid (bs.length = n) ∧ Rd w A (bs.map bv))
    (hw : Walk P ops a Φ b Q (i + 1) ((d, .is (.string ⟨bs.toArray⟩)) :: done) l) : Walk P ops a Φ b Q i done (⟨d, .convert src dst x, ty, pos, af, gd⟩ :: l) := by
  refine ⟨.is (.string ⟨bs.toArray⟩), trivial, StepOb.of hg fun ρ k w hI hfs => ?_, hw⟩
  obtain ⟨A, n, c, hu, hn, hb⟩ := hf k w (ρ x) hI hfs.1
  have hr := run_str (P := P) hb src dst e n c hn.out.symm hs he hd
  simp only [execOp, hu, Sem.run_bind, hr, Result.andThen_ok, Sem.run_pure, okUpon, Fact.holds, true_and]
  unfold Frames.J
  rw [hch]
  exact hle w

/-- Any other operation. -/
theorem Walk.any (F : Fact) (hst : F.stable Φ) (hg : GuardYes ops done a o)
    (h : ∀ ρ k w, Φ.I b i k w → factsHold done a ρ k w o.op.operands.toList → okUpon P F (Φ.J i k) (Φ.next i k) w ((execOp ρ o).run P w))
    (hw : Walk P ops a Φ b Q (i + 1) ((o.dst, F) :: done) l) : Walk P ops a Φ b Q i done (o :: l) :=
  ⟨F, hst, StepOb.of hg h, hw⟩
end
end
end Go.Proofs.Ytopellbmmkflgaa.Vc
