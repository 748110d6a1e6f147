/- A region that draws its order and whose last operations wait for all ahead of them: the first ones by facts, in any order; the last ones as a list. -/
import Derived.Test.YtopellbmmkflgaaVc
set_option linter.unusedVariables false
set_option linter.unusedSimpArgs false
namespace Go.Proofs.Ytopellbmmkflgaa.Vc
open Go.RowKit
section
variable {P : Program} {ops : Array Oper} {b : Array Nat} {chain : List Nat} {size : Nat}

theorem walk_gives_to {a : Act} {Φ : Frames} {Q : Act → World → Prop} {m : Nat} : ∀ (l : List Oper) (k : Nat) (Fs₀ : Nat → Fact), (∀ j, j < l.length → l[j]? = ops[k + j]?) → k + l.length = m → m ≤ ops.size →
    Walk P ops a Φ b Q k (doneOf ops Fs₀ k) l →
    ∃ Fs : Nat → Fact, (∀ j, j < k ∨ m ≤ j → Fs j = Fs₀ j) ∧ (∀ i o, k ≤ i → i < m → ops[i]? = some o → (Fs i).stable Φ ∧ StepOb P ops a Φ b i (doneOf ops Fs i) o (Fs i)) ∧
      ∀ w, Φ.G Φ.chain.length w → finish (fun a' => Q a' w) Φ.chain.length w (doneOf ops Fs m).reverse a
  | [], k, Fs₀, hl, hk, hm, h => by
    refine ⟨Fs₀, fun _ _ => rfl, fun i o hi him ho => ?_, ?_⟩
    · simp at hk
      omega
    · have hk' : k = m := by simpa using hk
      rw [← hk']
      exact h
  | o :: l, k, Fs₀, hl, hk, hmo, h => by
    have h0 : ops[k]? = some o := by simpa using (hl 0 (by simp)).symm
    obtain ⟨F, hst, hob, hw⟩ := h
    let Fs₁ : Nat → Fact := fun j => if j = k then F else Fs₀ j
    have hdone : ∀ m, m ≤ k → doneOf ops Fs₁ m = doneOf ops Fs₀ m := by
      intro m
      induction m with
      | zero => intro _; rfl
      | succ m ihm =>
        intro hm
        have : Fs₁ m = Fs₀ m := by simp [Fs₁, show m ≠ k by omega]
        simp only [doneOf, this, ihm (by omega)]
    have hstep : doneOf ops Fs₁ (k + 1) = (o.dst, F) :: doneOf ops Fs₀ k := by
      have : Fs₁ k = F := by simp [Fs₁]
      simp only [doneOf, this, hdone k (Nat.le_refl _), dstOf, h0, Option.bind_some]
    rw [← hstep] at hw
    obtain ⟨Fs, hsame, hall, hfin⟩ := walk_gives_to l (k + 1) Fs₁ (fun j hj => by have := hl (j + 1) (by simpa using hj); simpa [Nat.add_assoc, Nat.add_comm 1 j] using this) (by simp at hk; omega) hmo hw
    have hFk : Fs k = F := by rw [hsame k (.inl (by omega))]; simp [Fs₁]
    have hFd : ∀ m, m ≤ k → doneOf ops Fs m = doneOf ops Fs₀ m := by
      intro m
      induction m with
      | zero => intro _; rfl
      | succ m ihm =>
        intro hm
        have h1 : Fs m = Fs₀ m := by rw [hsame m (.inl (by omega))]; simp [Fs₁, show m ≠ k by omega]
        simp only [doneOf, h1, ihm (by omega)]
    refine ⟨Fs, fun j hj => ?_, fun i oi hi him hoi => ?_, hfin⟩
    · have hj' : j ≠ k := by simp at hk; omega
      rw [hsame j (by omega)]
      simp [Fs₁, hj']
    · by_cases hik : i = k
      · subst hik
        rw [h0] at hoi
        injection hoi with hoi
        subst hoi
        rw [hFk, hFd i (Nat.le_refl _)]
        exact ⟨hst, hob⟩
      · exact hall i oi (by omega) him hoi


theorem finish_gives_to {chain : List Nat} {a a' : Act} {st : Nat} {w : World} {Fs : Nat → Fact} {Q : Act → Prop} {m : Nat} (hm : m ≤ ops.size) (h : okB ops b chain a.tmps.size = true)
    (hsz : a'.tmps.size = a.tmps.size) (hdf : a'.defers = a.defers) (hbase : ∀ t, (∀ j, j < m → dstOf ops j ≠ some t) → a'.tmps[t]? = a.tmps[t]?)
    (hfacts : ∀ j d, j < m → dstOf ops j = some d → (Fs j).holds st (a'.tmps.getD d undef) w) :
    ∀ (n k : Nat) (x : Act), k + n = m → x.tmps.size = a.tmps.size → x.defers = a.defers →
      (∀ t, (∀ j, k ≤ j → j < m → dstOf ops j ≠ some t) → x.tmps[t]? = a'.tmps[t]?) →
      finish Q st w ((List.range' k n).map fun j => (dstOf ops j, Fs j)) x → Q a'
  | 0, k, x, hk, hs, hd, hx, hfin => by
    have : x = a' := by
      obtain ⟨xt, xd⟩ := x
      obtain ⟨at', ad⟩ := a'
      have e1 : xt = at' := Array.ext_getElem? fun t => hx t fun j h1 h2 => by omega
      have e2 : xd = ad := by simp at hd hdf; rw [hd, hdf]
      rw [e1, e2]
    rw [← this]
    exact hfin
  | n + 1, k, x, hk, hs, hd, hx, hfin => by
    simp only [List.range'_succ, List.map_cons] at hfin
    have step : ∀ d v, dstOf ops k = some d → a'.tmps.getD d undef = v → finish Q st w ((List.range' (k + 1) n).map fun j => (dstOf ops j, Fs j)) (x.put (some d) v) → Q a' := by
      intro d v hdk hv hf
      refine finish_gives_to hm h hsz hdf hbase hfacts n (k + 1) (x.put (some d) v) (by omega) (by rw [put_size]; exact hs) (by rw [put_defers_same]; exact hd) (fun t ht => ?_) hf
      by_cases htd : d = t
      · subst htd
        have hlt : d < x.tmps.size := by rw [hs]; exact dst_lt h hdk
        have hlt' : d < a'.tmps.size := by rw [hsz]; exact dst_lt h hdk
        simp only [Act.put]
        rw [Array.getElem?_setIfInBounds_self_of_lt hlt, ← hv]
        simp [hlt']
      · simp only [Act.put, Array.getElem?_setIfInBounds_ne htd]
        exact hx t fun j h1 h2 => by
          by_cases hjk : j = k
          · subst hjk; rw [hdk]; intro e; injection e with e; exact htd e
          · exact ht j (by omega) h2
    cases hdk : dstOf ops k with
    | none =>
      rw [hdk] at hfin
      simp only [finish] at hfin
      refine finish_gives_to hm h hsz hdf hbase hfacts n (k + 1) x (by omega) hs hd (fun t ht => hx t fun j h1 h2 => ?_) hfin
      by_cases hjk : j = k
      · subst hjk; rw [hdk]; intro e; cases e
      · exact ht j (by omega) h2
    | some d =>
      rw [hdk] at hfin
      have hf := hfacts k d (by omega) hdk
      cases hF : Fs k with
      | is v =>
        rw [hF] at hfin hf
        simp only [finish] at hfin
        exact step d v hdk hf hfin
      | fits F =>
        rw [hF] at hfin hf
        simp only [finish] at hfin
        exact step d _ hdk rfl (hfin _ hf)


/-- Each operation from m on waits for all ahead of it. -/
def tailOk (ops : Array Oper) (b : Array Nat) (m : Nat) : Bool := (List.range ops.size).all fun i => Nat.blt i m || (List.range i).all fun j => bit b i j
theorem tailOk_at {m : Nat} (h : tailOk ops b m = true) {i j : Nat} (hi : i < ops.size) (hm : m ≤ i) (hj : j < i) : bit b i j = true := by
  simp only [tailOk, List.all_eq_true, List.mem_range, Bool.or_eq_true, Nat.blt_eq] at h
  rcases h i hi with h | h
  · omega
  · exact h j hj

theorem drop_cons_of {l : List Oper} {k : Nat} (h : k < l.length) : ∃ o, l[k]? = some o ∧ l.drop k = o :: l.drop (k + 1) :=
  ⟨l[k], List.getElem?_eq_getElem h, List.drop_eq_getElem_cons h⟩

theorem tail_any {Q : Exit → Act → World → Prop} {l : List Oper} {m : Nat} (h : okB l.toArray b chain size = true) (ht : tailOk l.toArray b m = true) :
    ∀ (n k : Nat) (listed : Array Bool) (a : Act) (w : World), k + n = l.length → m ≤ k → listed.size = l.length → (∀ j, j < l.length → listed.getD j false = decide (j < k)) →
      wpList P l.toArray Q (l.drop k) a w → wpAny P .any l.toArray Q n listed a w
  | 0, k, listed, a, w, hk, hmk, hs, hl, hw => by
    have e : l.drop k = [] := List.drop_eq_nil_of_le (by omega)
    rw [e] at hw
    refine ⟨?_, hw⟩
    cases hr : Region.ready .any l.toArray listed with
    | nil => rfl
    | cons x xs =>
      exfalso
      have hm : x ∈ Region.ready .any l.toArray listed := by rw [hr]; simp
      obtain ⟨hx, ox, hox, _⟩ := mem_ready.1 hm
      have hlt : x < l.length := by simpa using (Array.getElem?_eq_some_iff.1 hox).1
      have h1 := hl x hlt
      rw [listed_true hx] at h1
      simp at h1
      omega
  | n + 1, k, listed, a, w, hk, hmk, hs, hl, hw => by
    have hkl : k < l.length := by omega
    obtain ⟨o, ho, hd⟩ := drop_cons_of hkl
    have hoa : l.toArray[k]? = some o := by simpa using ho
    have hcl : Closed l.toArray fun i => listed.getD i false := by
      intro i oi hi hli e he hb
      have hil : i < l.length := by simpa using (Array.getElem?_eq_some_iff.1 hi).1
      have h1 := hl i hil
      simp only at hli ⊢
      rw [hli] at h1
      have h2 := edge_lt h hi he hb
      rw [hl e.on (by omega)]
      simp at h1 ⊢
      omega
    have hready : k ∈ Region.ready .any l.toArray listed := by
      refine mem_ready.2 ⟨?_, o, hoa, fun e he hb => ?_⟩
      · have := hl k hkl
        have hk' : k < listed.size := by omega
        simp [hk'] at this ⊢
        exact this
      · have h2 := edge_lt h hoa he hb
        rw [hl e.on (by omega)]
        simpa using h2
    refine ⟨fun hr => by rw [hr] at hready; simp at hready, fun i hi => ?_⟩
    obtain ⟨hun', oi, hoi, hall⟩ := mem_ready.1 hi
    have hun := listed_true hun'
    have hil : i < l.length := by simpa using (Array.getElem?_eq_some_iff.1 hoi).1
    have hik : i = k := by
      have h1 := hl i hil
      rw [hun] at h1
      have hki : k ≤ i := by simpa using h1.symm
      rcases Nat.lt_or_ge k i with hlt | hge
      · have hbit := tailOk_at ht (show i < l.toArray.size by rw [List.size_toArray]; exact hil) (by omega) hlt
        have := listed_of_bit h hcl k (show k < l.toArray.size by rw [List.size_toArray]; exact hkl) i oi hoi hall hbit
        rw [hl k hkl] at this
        simp at this
      · omega
    subst hik
    have next : ∀ a' w', wpList P l.toArray Q (l.drop (i + 1)) a' w' → wpAny P .any l.toArray Q n (listed.setIfInBounds i true) a' w' := fun a' w' hw' =>
      tail_any h ht n (i + 1) _ a' w' (by omega) (by omega) (by simpa using hs) (fun j hj => by
        by_cases hji : i = j
        · subst hji
          have : i < listed.size := by omega
          simp [this]
        · rw [getD_set_ne false hji, hl j hj]
          simp
          omega) hw'
    rw [hd] at hw
    have e : wpOp P l.toArray Q i (wpList P l.toArray Q (l.drop (i + 1))) a w := by
      unfold wpOp
      simp only [hoa]
      exact hw
    exact wpOp_mono next e

/-- What an operation that makes a block says: the new block's address. -/
def Makes (P : Program) (o : Oper) : Prop := o.guard = none ∧ ∀ ρ w n w', (execOp ρ o).run P w = .ok n w' → n = .value (.pointer (some ⟨w.heap.size, 0, none⟩)) ∧ w.heap.size < w'.heap.size
/-- The makers' blocks are apart. -/
def Apart (ops : Array Oper) (news : List Nat) (a : Act) : Prop := ∀ i ∈ news, ∀ j ∈ news, i ≠ j → ∀ d d', dstOf ops i = some d → dstOf ops j = some d' → a.tmps.getD d undef ≠ a.tmps.getD d' undef

structure Fresh (ops : Array Oper) (news : List Nat) (listed : Array Bool) (a : Act) (w : World) : Prop where
  at_ : ∀ i ∈ news, listed.getD i false = true → ∀ d, dstOf ops i = some d → ∃ g, a.tmps.getD d undef = .pointer (some ⟨g, 0, none⟩) ∧ g < w.heap.size
  apart : ∀ i ∈ news, ∀ j ∈ news, i ≠ j → listed.getD i false = true → listed.getD j false = true → ∀ d d', dstOf ops i = some d → dstOf ops j = some d' → a.tmps.getD d undef ≠ a.tmps.getD d' undef

theorem put_other {a : Act} {d d' : Nat} {v : Value} (h : d' ≠ d) : (a.put (some d') v).tmps.getD d undef = a.tmps.getD d undef := by
  simp only [Act.put, Array.getD_eq_getD_getElem?, Array.getElem?_setIfInBounds_ne h]
theorem put_self' {a : Act} {d : Nat} {v : Value} (h : d < a.tmps.size) : (a.put (some d) v).tmps.getD d undef = v := by
  simp [Act.put, h]

theorem Fresh.next {news : List Nat} {listed : Array Bool} {a : Act} {w w1 : World} {i : Nat} {o : Oper} {v : Value} (h : okB ops b chain size = true) (hs : a.tmps.size = size) (hF : Fresh ops news listed a w)
    (hi : ops[i]? = some o) (hz : w.heap.size ≤ w1.heap.size) (hv : i ∈ news → v = .pointer (some ⟨w.heap.size, 0, none⟩) ∧ w.heap.size < w1.heap.size) (hil : i < listed.size) :
    Fresh ops news (listed.setIfInBounds i true) (a.put o.dst v) w1 := by
  have hset : ∀ c, (listed.setIfInBounds i true).getD c false = true → c ≠ i → listed.getD c false = true := fun c hc hci => by
    rwa [getD_set_ne false (fun e => hci e.symm)] at hc
  have hdi : dstOf ops i = o.dst := by simp [dstOf, hi]
  have old : ∀ j d, j ≠ i → dstOf ops j = some d → (a.put o.dst v).tmps.getD d undef = a.tmps.getD d undef := by
    intro j d hj hd
    cases ho : o.dst with
    | none => rfl
    | some d' => exact put_other (fun e => hj (uniq h hd (by rw [hdi, ho, e])))
  have new : ∀ d, dstOf ops i = some d → (a.put o.dst v).tmps.getD d undef = v := by
    intro d hd
    rw [hdi] at hd
    rw [hd]
    exact put_self' (by rw [hs]; exact dst_lt h (hdi.trans hd))
  refine ⟨fun j hj hl d hd => ?_, fun j hj k hk hne hl hl' d d' hd hd' => ?_⟩
  · by_cases hji : j = i
    · subst hji
      obtain ⟨e, hlt⟩ := hv hj
      exact ⟨_, (new d hd).trans e, hlt⟩
    · obtain ⟨g, e, hlt⟩ := hF.at_ j hj (hset j hl hji) d hd
      exact ⟨g, (old j d hji hd).trans e, by omega⟩
  · by_cases hji : j = i
    · subst hji
      obtain ⟨e, hlt⟩ := hv hj
      obtain ⟨g, e', hlt'⟩ := hF.at_ k hk (hset k hl' (fun e => hne e.symm)) d' hd'
      rw [new d hd, old k d' (fun e => hne e.symm) hd', e, e']
      intro h0
      injection h0 with h0
      injection h0 with h0
      injection h0 with h0
      omega
    · by_cases hki : k = i
      · subst hki
        obtain ⟨e, hlt⟩ := hv hk
        obtain ⟨g, e', hlt'⟩ := hF.at_ j hj (hset j hl hji) d hd
        rw [new d' hd', old j d hji hd, e, e']
        intro h0
        injection h0 with h0
        injection h0 with h0
        injection h0 with h0
        omega
      · rw [old j d hji hd, old k d' hki hd']
        exact hF.apart j hj k hk hne (hset j hl hji) (hset k hl' hki) d d' hd hd'

theorem count_tail {listed : Array Bool} {m n : Nat} (hs : listed.size = n) (hm : m ≤ n) (hl : ∀ j, j < n → listed.getD j false = decide (j < m)) : listed.toList.count false = n - m := by
  have e : listed.toList = List.replicate m true ++ List.replicate (n - m) false := by
    apply List.ext_getElem
    · simp; omega
    · intro j h1 h2
      have hj : j < n := by simpa [hs] using h1
      have := hl j hj
      have hjl : j < listed.size := by omega
      simp [hjl] at this
      rw [List.getElem_append]
      split
      · rename_i h3
        simp at h3
        simp [this, h3]
      · rename_i h3
        simp at h3
        simp [this]
        omega
  rw [e, List.count_append, List.count_replicate, List.count_replicate]
  simp

theorem walk_split {a : Act} {Φ : Frames} {Fs : Nat → Fact} {Q : Exit → Act → World → Prop} {l : List Oper} {m : Nat} {news : List Nat} (hops : ops = l.toArray) (h : okB ops b Φ.chain a.tmps.size = true)
    (ht : tailOk ops b m = true) (hml : m ≤ l.length) (hcm : ∀ c ∈ Φ.chain, c < m) (hnm : ∀ i ∈ news, ∃ o, ops[i]? = some o ∧ Makes P o)
    (hsz : ∀ w w', Φ.Le w w' → w.heap.size ≤ w'.heap.size) (hszC : ∀ k w w', Φ.LeC k w w' → w.heap.size ≤ w'.heap.size) (hnews : ∀ i ∈ news, i < m)
    (hG : ∀ k w w', Φ.Le w w' → Φ.G k w → Φ.G k w') (hst : ∀ i o, ops[i]? = some o → (Fs i).stable Φ)
    (hob : ∀ i o, i < m → ops[i]? = some o → (Fs i).stable Φ ∧ StepOb P ops a Φ b i (doneOf ops Fs i) o (Fs i))
    (hfin : ∀ w, Φ.G Φ.chain.length w → finish (fun a' => Apart ops news a' → wpList P ops Q (l.drop m) a' w) Φ.chain.length w (doneOf ops Fs m).reverse a) :
    ∀ (fuel : Nat) (listed : Array Bool) (a' : Act) (w : World), listed.toList.count false = fuel → Inv ops a Φ Fs listed a' w → Fresh ops news listed a' w →
      (∀ i, m ≤ i → i < l.length → listed.getD i false = false) → wpAny P .any ops Q fuel listed a' w := by
  have hz0 : ops.size = l.length := by rw [hops, List.size_toArray]
  intro fuel
  induction fuel with
  | zero =>
    intro listed a' w hc hI hF hpre
    have hsl : listed.size = l.length := by rw [hI.lsize, hz0]
    by_cases hall : ∀ i, i < m → listed.getD i false = true
    · have hld : ∀ j, j < l.length → listed.getD j false = decide (j < m) := by
        intro j hj
        by_cases hjm : j < m
        · rw [hall j hjm]; simp [hjm]
        · rw [hpre j (by omega) hj]; simp [hjm]
      have hcnt := count_tail hsl hml hld
      have hcl : cnt Φ listed = Φ.chain.length := by
        have : (Φ.chain.filter fun c => listed.getD c false) = Φ.chain := List.filter_eq_self.2 fun c hc' => hall c (hcm c hc')
        unfold cnt
        rw [this]
      have hf := hfin w (hcl ▸ hI.stage)
      rw [doneOf_reverse] at hf
      have hf := finish_gives_to (Q := fun a' => Apart ops news a' → wpList P ops Q (l.drop m) a' w) (m := m) (by omega) h hI.size hI.defers
        (fun t ht' => hI.base t fun j hl e => by
          have hjl : j < l.length := by
            unfold dstOf at e
            obtain ⟨oj, hoj, _⟩ := Option.bind_eq_some_iff.1 e
            have := (Array.getElem?_eq_some_iff.1 hoj).1; omega
          rw [hld j hjl] at hl
          exact ht' j (by simpa using hl) e)
        (fun j d hj hd => hcl ▸ hI.facts j d (hall j hj) hd) m 0 a (by omega) rfl rfl
        (fun t ht' => (hI.base t fun j hl e => by
          have hjl : j < l.length := by
            unfold dstOf at e
            obtain ⟨oj, hoj, _⟩ := Option.bind_eq_some_iff.1 e
            have := (Array.getElem?_eq_some_iff.1 hoj).1; omega
          rw [hld j hjl] at hl
          exact ht' j (by omega) (by simpa using hl) e).symm) hf
      have hf := hf (fun i hi j hj hne d d' hd hd' => hF.apart i hi j hj hne (hall i (hnews i hi)) (hall j (hnews j hj)) d d' hd hd')
      subst hops
      exact tail_any h ht _ m listed a' w (by omega) (Nat.le_refl _) hsl hld hf
    · exfalso
      apply hall
      intro i hi
      cases hx : listed.getD i false with
      | true => rfl
      | false =>
        have := count_set (by omega) hx
        omega
  | succ fuel ih =>
    intro listed a' w hc hI hF hpre
    have hsl : listed.size = l.length := by rw [hI.lsize, hz0]
    by_cases hall : ∀ i, i < m → listed.getD i false = true
    · have hld : ∀ j, j < l.length → listed.getD j false = decide (j < m) := by
        intro j hj
        by_cases hjm : j < m
        · rw [hall j hjm]; simp [hjm]
        · rw [hpre j (by omega) hj]; simp [hjm]
      have hcnt := count_tail hsl hml hld
      have hcl : cnt Φ listed = Φ.chain.length := by
        have : (Φ.chain.filter fun c => listed.getD c false) = Φ.chain := List.filter_eq_self.2 fun c hc' => hall c (hcm c hc')
        unfold cnt
        rw [this]
      have hf := hfin w (hcl ▸ hI.stage)
      rw [doneOf_reverse] at hf
      have hf := finish_gives_to (Q := fun a' => Apart ops news a' → wpList P ops Q (l.drop m) a' w) (m := m) (by omega) h hI.size hI.defers
        (fun t ht' => hI.base t fun j hl e => by
          have hjl : j < l.length := by
            unfold dstOf at e
            obtain ⟨oj, hoj, _⟩ := Option.bind_eq_some_iff.1 e
            have := (Array.getElem?_eq_some_iff.1 hoj).1; omega
          rw [hld j hjl] at hl
          exact ht' j (by simpa using hl) e)
        (fun j d hj hd => hcl ▸ hI.facts j d (hall j hj) hd) m 0 a (by omega) rfl rfl
        (fun t ht' => (hI.base t fun j hl e => by
          have hjl : j < l.length := by
            unfold dstOf at e
            obtain ⟨oj, hoj, _⟩ := Option.bind_eq_some_iff.1 e
            have := (Array.getElem?_eq_some_iff.1 hoj).1; omega
          rw [hld j hjl] at hl
          exact ht' j (by omega) (by simpa using hl) e).symm) hf
      have hf := hf (fun i hi j hj hne d d' hd hd' => hF.apart i hi j hj hne (hall i (hnews i hi)) (hall j (hnews j hj)) d d' hd hd')
      subst hops
      exact tail_any h ht _ m listed a' w (by omega) (Nat.le_refl _) hsl hld hf
    · refine ⟨fun hr => absurd (fun i hi => ready_nil h hI hr i (by omega)) hall, fun i hm => ?_⟩
      obtain ⟨hun', o, hi, hall'⟩ := mem_ready.1 hm
      have hun := listed_true hun'
      have hlt : i < listed.size := by rw [hI.lsize]; exact (Array.getElem?_eq_some_iff.1 hi).1
      have hcount : (listed.setIfInBounds i true).toList.count false = fuel := by have := count_set hlt hun; omega
      have him : i < m := by
        rcases Nat.lt_or_ge i m with h' | h'
        · exact h'
        · exfalso
          apply hall
          intro j hj
          exact listed_of_bit h hI.closed j (by omega) i o hi hall' (tailOk_at ht (Array.getElem?_eq_some_iff.1 hi).1 h' (by omega))
      obtain ⟨_, hob'⟩ := hob i o him hi
      have hIi := stage_at h hI hi hun hall'
      have hfs := facts_all h hI hi hun hall' o.op.operands.toList (fun x hx => by simpa using hx)
      have hsteps := hob' a'.eval _ w hIi hfs
      have hmk : i ∈ news → ∀ n w', (execOp a'.eval o).run P w = .ok n w' → n = .value (.pointer (some ⟨w.heap.size, 0, none⟩)) ∧ w.heap.size < w'.heap.size := fun hi' => by
        obtain ⟨o', ho', hm'⟩ := hnm i hi'
        rw [hi] at ho'
        injection ho' with ho'
        subst ho'
        exact hm'.2 _ _
      have hng : i ∈ news → o.guard = none := fun hi' => by
        obtain ⟨o', ho', hm'⟩ := hnm i hi'
        rw [hi] at ho'
        injection ho' with ho'
        subst ho'
        exact hm'.1
      have hJz : ∀ w1, Φ.J i (cnt Φ listed) w w1 → w.heap.size ≤ w1.heap.size := fun w1 hJ => by
        unfold Frames.J at hJ
        cases hk : Φ.chain.idxOf? i with
        | none => rw [hk] at hJ; exact hsz _ _ hJ
        | some x => rw [hk] at hJ; exact hszC _ _ _ hJ.1
      have next : ∀ v w1, (Fs i).holds (Φ.next i (cnt Φ listed)) v w1 → Φ.J i (cnt Φ listed) w w1 → (i ∈ news → v = .pointer (some ⟨w.heap.size, 0, none⟩) ∧ w.heap.size < w1.heap.size) → wpAny P .any ops Q fuel (listed.setIfInBounds i true) (a'.put o.dst v) w1 := fun v w1 hFv hJ hv =>
        ih _ _ _ hcount (inv_next h hG hst hI hi hun hall' hFv hJ) (hF.next h hI.size hi (hJz w1 hJ) hv hlt) (fun j hj hjl => by rw [getD_set_ne false (by omega)]; exact hpre j hj hjl)
      have run : okUpon P (Fs i) (Φ.J i (cnt Φ listed)) (Φ.next i (cnt Φ listed)) w ((execOp a'.eval o).run P w) → Oper.wp P o a' w (wpAny P .any ops Q fuel (listed.setIfInBounds i true)) Q := by
        intro hok
        unfold Oper.wp
        generalize (execOp a'.eval o).run P w = r at *
        cases r with
        | ok n w1 =>
          cases n <;> simp only [okUpon] at hok <;> simp only [Oper.upon]
          case value v => exact next v w1 hok.1 hok.2 (fun hi' => by obtain ⟨e, hlt'⟩ := hmk hi' _ _ rfl; injection e with e; exact ⟨e, hlt'⟩)
          case skip => exact next undef w1 hok.1 hok.2 (fun hi' => by obtain ⟨e, _⟩ := hmk hi' _ _ rfl; cases e)
          case enter f args => exact hok.mono fun e w2 ⟨v, he, h1, h2⟩ => by subst he; exact next v w2 h1 h2 (fun hi' => by obtain ⟨e, _⟩ := hmk hi' _ _ rfl; cases e)
        | halt x w1 => simp only [okUpon] at hok
      unfold wpOp
      simp only [hi]
      cases hg : o.guard with
      | none =>
        simp only [hg] at hsteps
        simp only [Region.wanted, hg, if_true]
        exact .inl (run hsteps)
      | some gw =>
        obtain ⟨g, want⟩ := gw
        simp only [hg] at hsteps
        cases hd : dstOf ops g with
        | none =>
          have hy : yielded ops a'.tmps g = none := by simp only [dstOf] at hd; simp [yielded, hd]
          have hw : Region.wanted o (yielded ops a'.tmps) = false := by simp [Region.wanted, hg, hy]
          obtain ⟨_, h2⟩ := hsteps undef (by simp only [guardFact, hd]; rfl)
          obtain ⟨hF', hJ⟩ := h2 (undef_ne want)
          rw [hw]
          exact next undef w hF' hJ (fun hi' => by have := hng hi'; rw [hg] at this; cases this)
        | some d =>
          have hdt : d ∈ tmpsOf ops o := List.mem_append_right _ (by simp [hg, hd])
          have hfg := tmp_fact h hI hi hun hall' hdt
          obtain ⟨h1, h2⟩ := hsteps (a'.tmps.getD d undef) (by simp only [guardFact, hd]; exact hfg)
          have hd' := hd
          simp only [dstOf] at hd'
          by_cases hv : a'.tmps.getD d undef = .bool want
          · have hw : Region.wanted o (yielded ops a'.tmps) = true := by
              have : a'.tmps[d]? = some (.bool want) := by
                rcases Nat.lt_or_ge d a'.tmps.size with h' | h'
                · simp [h'] at hv ⊢; exact hv
                · simp [Array.getElem?_eq_none h'] at hv
                  exact absurd hv (undef_ne want)
              simp [Region.wanted, hg, yielded, hd', this]
            rw [hw]
            exact .inl (run (h1 hv))
          · have hw : Region.wanted o (yielded ops a'.tmps) = false := by
              simp only [Region.wanted, hg, yielded, hd', Option.bind_some]
              rcases Nat.lt_or_ge d a'.tmps.size with h' | h'
              · have hx : a'.tmps[d]? = some (a'.tmps.getD d undef) := by simp [h']
                rw [hx]
                cases hval : a'.tmps.getD d undef <;> simp_all
              · simp [Array.getElem?_eq_none h']
            obtain ⟨hF', hJ⟩ := h2 hv
            rw [hw]
            exact next undef w hF' hJ (fun hi' => by have := hng hi'; rw [hg] at this; cases this)

/-- **A REGION THAT DRAWS ITS ORDER**, the first m operations by facts, in any order; those behind them as a list. 'news': makers of blocks. -/
theorem wp_region_split {id : Nat} {l : List Oper} {a : Act} {w : World} {Q : Exit → Act → World → Prop} (Φ : Frames) (m : Nat) (news : List Nat) (hm : P.follows .mixedOrders = true)
    (h : okB l.toArray (Region.before l.toArray) Φ.chain a.tmps.size = true) (ht : tailOk l.toArray (Region.before l.toArray) m = true) (hml : m ≤ l.length) (hcm : ∀ c ∈ Φ.chain, c < m)
    (hnm : ∀ i ∈ news, ∃ o, l.toArray[i]? = some o ∧ Makes P o) (hnews : ∀ i ∈ news, i < m)
    (hsz : ∀ w w', Φ.Le w w' → w.heap.size ≤ w'.heap.size) (hszC : ∀ k w w', Φ.LeC k w w' → w.heap.size ≤ w'.heap.size)
    (hG : ∀ k w w', Φ.Le w w' → Φ.G k w → Φ.G k w') (h0 : Φ.G 0 w.drew)
    (hw : Walk P l.toArray a Φ (Region.before l.toArray) (fun a' w' => Apart l.toArray news a' → wpList P l.toArray Q (l.drop m) a' w') 0 [] (l.take m)) : (Code.region id l.toArray true).wp P Q a w := by
  refine wp_region_any hm ?_
  have hlt : (l.take m).length = m := by rw [List.length_take]; omega
  obtain ⟨Fs, hrest, hall, hfin⟩ := walk_gives_to (P := P) (ops := l.toArray) (b := Region.before l.toArray) (a := a) (Φ := Φ) (m := m) (l.take m) 0 (fun _ => .is undef) (fun j hj => by rw [hlt] at hj; simp [List.getElem?_take_of_lt hj]) (by omega) (by rw [List.size_toArray]; exact hml) hw
  refine walk_split rfl h ht hml hcm hnm hsz hszC hnews hG (fun i o hi => ?_) (fun i o him hi => hall i o (Nat.zero_le _) him hi) hfin _ _ a w.drew (by simp) ⟨by simp, fun i o hi hl => ?_, rfl, rfl, fun t _ => rfl, fun j d hl => ?_, ?_⟩ ⟨fun i _ hl => ?_, fun i _ j _ _ hl => ?_⟩ (fun i _ _ => rep_false _ _)
  · by_cases him : i < m
    · exact (hall i o (Nat.zero_le _) him hi).1
    · rw [hrest i (.inr (by omega))]
      trivial
  · exact absurd ((rep_false _ _).symm.trans hl) (by simp)
  · exact absurd ((rep_false _ _).symm.trans hl) (by simp)
  · have : (Φ.chain.filter fun c => (Array.replicate l.toArray.size false).getD c false) = [] := List.filter_eq_nil_iff.2 fun c _ => by rw [rep_false]; simp
    unfold cnt
    rw [this]
    exact h0
  · exact absurd ((rep_false _ _).symm.trans hl) (by simp)
  · exact absurd ((rep_false _ _).symm.trans hl) (by simp)
end
end Go.Proofs.Ytopellbmmkflgaa.Vc
